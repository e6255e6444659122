/- The lift's words on heaps: what a call keeps, rows of cells, slices of the call's own, and how a law's row comes of its telling. -/
import Derived.Test.YtechpnlbkkfplaaDoorLift5
import Derived.Laws.Strings
namespace Go.Lift

/-- All blocks but those of S are as they were; none is gone. -/
structure Keeps (S : Nat → Prop) (h h' : Heap) : Prop where
  size : h.size ≤ h'.size
  blk : ∀ b, b < h.size → ¬ S b → h'[b]? = h[b]?

abbrev Kept : Heap → Heap → Prop := Keeps fun _ => False

theorem Keeps.refl (S : Nat → Prop) (h : Heap) : Keeps S h h := ⟨Nat.le_refl _, fun _ _ _ => rfl⟩
theorem Kept.refl (h : Heap) : Kept h h := Keeps.refl _ h
theorem Keeps.trans {S : Nat → Prop} {a b c : Heap} (h : Keeps S a b) (k : Keeps S b c) : Keeps S a c :=
  ⟨Nat.le_trans h.size k.size, fun i hi hs => (k.blk i (Nat.lt_of_lt_of_le hi h.size) hs).trans (h.blk i hi hs)⟩
/-- Blocks that were made in between may turn. -/
theorem Keeps.trans' {S S' : Nat → Prop} {a b c : Heap} (h : Keeps S a b) (k : Keeps S' b c) (hs : ∀ i, i < a.size → S' i → S i) : Keeps S a c :=
  ⟨Nat.le_trans h.size k.size, fun i hi hn => (k.blk i (Nat.lt_of_lt_of_le hi h.size) (fun x => hn (hs i hi x))).trans (h.blk i hi hn)⟩
theorem Keeps.mono {S S' : Nat → Prop} {a b : Heap} (h : Keeps S a b) (hs : ∀ i, i < a.size → S i → S' i) : Keeps S' a b :=
  ⟨h.size, fun i hi hn => h.blk i hi fun x => hn (hs i hi x)⟩
theorem Keeps.push (S : Nat → Prop) (h : Heap) (o : Obj) : Keeps S h (h.push o) :=
  ⟨by simp, fun b hb _ => by rw [Array.getElem?_push, if_neg (by omega)]⟩
theorem Keeps.al (S : Nat → Prop) (h : Heap) (cs : Array Value) (t : TypeId) : Keeps S h (al h cs t) := Keeps.push S h _
theorem Kept.trans {a b c : Heap} (h : Kept a b) (k : Kept b c) : Kept a c := Keeps.trans h k
theorem Kept.keeps {S : Nat → Prop} {a b : Heap} (h : Kept a b) : Keeps S a b := h.mono fun _ _ x => x.elim

theorem hcell_eq {h h' : Heap} {a : Addr} (e : h'[a.block]? = h[a.block]?) : hcell h' a = hcell h a := by simp only [hcell, e]
theorem hfrozen_eq {h h' : Heap} {a : Addr} (e : h'[a.block]? = h[a.block]?) : hfrozen h' a = hfrozen h a := by simp only [hfrozen, e]

theorem hcell_lt {h : Heap} {a : Addr} {v : Value} (e : hcell h a = some v) : a.block < h.size := by
  rcases Nat.lt_or_ge a.block h.size with hl | hl
  · exact hl
  · simp [hcell, Array.getElem?_eq_none hl] at e

theorem Keeps.cell {S : Nat → Prop} {h h' : Heap} (k : Keeps S h h') {a : Addr} {v : Value} (e : hcell h a = some v) (hs : ¬ S a.block) : hcell h' a = some v := by
  rw [hcell_eq (k.blk a.block (hcell_lt e) hs)]; exact e

/-- A law that answers true and keeps what was there. -/
theorem law_calls {P : Program} {f : FuncId} {args : List Value} {h : Heap} (c : CallsH P f args (fun v h' => v = .bool true ∧ Kept h h') h) (W : World) (hW : W.heap = h) :
    Calls P f args.toArray W fun e W' => e = .returned (.bool true) ∧ RowKit.Below W.heap.size W W' :=
  (c.2 W hW).mono fun e w' ⟨v, he, ⟨hv, hk⟩, hr⟩ => by
    subst hv
    exact ⟨he, hr.os, hr.tape, hr.output, by rw [hW]; exact hk.size, fun k hk' => by rw [hW] at hk' ⊢; exact hk.blk k hk' fun x => x⟩

/-! ### Addresses -/

theorem add_zero (a : Addr) : a.add 0 = a := rfl
theorem add_off {a : Addr} (h : a.spot = none) (n : Nat) : a.add n = ⟨a.block, a.off + n, none⟩ := by
  unfold Addr.add
  split
  · rename_i e; subst e; cases a; simp_all
  · rfl
theorem add_add {a : Addr} (h : a.spot = none) (i j : Nat) : (a.add i).add j = a.add (i + j) := by
  rw [add_off (a := a.add i) (by rw [add_off h]), add_off h, add_off h]
  simp [Nat.add_assoc]
theorem add_block (a : Addr) (n : Nat) : (a.add n).block = a.block := by unfold Addr.add; split <;> rfl
theorem add_spot {a : Addr} (h : a.spot = none) (n : Nat) : (a.add n).spot = none := by rw [add_off h]
theorem top_spot (h : Heap) : (top h).spot = none := rfl
theorem top_block (h : Heap) : (top h).block = h.size := rfl

/-! ### Rows of cells -/

/-- The cells from a on hold these values. -/
def At (h : Heap) (a : Addr) (vs : List Value) : Prop := (vs ≠ [] → a.spot = none) ∧ ∀ i, i < vs.length → hcell h (a.add i) = vs[i]?
/-- .. and may be written. -/
def Mem (h : Heap) (a : Addr) (vs : List Value) : Prop := At h a vs ∧ ∀ i, i < vs.length → hfrozen h (a.add i) = false

theorem At.get {h : Heap} {a : Addr} {vs : List Value} (m : At h a vs) {i : Nat} {v : Value} (e : vs[i]? = some v) : hcell h (a.add i) = some v := by
  rw [m.2 i (List.getElem?_eq_some_iff.1 e).1, e]

theorem At.lt {h : Heap} {a : Addr} {vs : List Value} (m : At h a vs) (hv : vs ≠ []) : a.block < h.size := by
  have hl : 0 < vs.length := List.length_pos_iff.2 hv
  have := m.2 0 hl
  rw [List.getElem?_eq_getElem hl] at this
  exact hcell_lt this

theorem At.sp {h : Heap} {a : Addr} {vs : List Value} (m : At h a vs) {i : Nat} (hi : i < vs.length) : a.spot = none := m.1 fun e => by subst e; exact absurd hi (Nat.not_lt_zero i)

theorem At.nil (h : Heap) (a : Addr) : At h a [] := ⟨fun e => absurd rfl e, fun i hi => absurd hi (Nat.not_lt_zero i)⟩

theorem At.keeps {S : Nat → Prop} {h h' : Heap} {a : Addr} {vs : List Value} (m : At h a vs) (k : Keeps S h h') (hs : vs ≠ [] → ¬ S a.block) : At h' a vs := by
  refine ⟨m.1, fun i hi => ?_⟩
  have hv : vs ≠ [] := by intro e; subst e; simp at hi
  rw [← m.2 i hi]
  exact hcell_eq (by rw [add_block]; exact k.blk _ (m.lt hv) (hs hv))

theorem Mem.keeps {S : Nat → Prop} {h h' : Heap} {a : Addr} {vs : List Value} (m : Mem h a vs) (k : Keeps S h h') (hs : vs ≠ [] → ¬ S a.block) : Mem h' a vs := by
  refine ⟨m.1.keeps k hs, fun i hi => ?_⟩
  have hv : vs ≠ [] := by intro e; subst e; simp at hi
  rw [← m.2 i hi]
  exact hfrozen_eq (by rw [add_block]; exact k.blk _ (m.1.lt hv) (hs hv))

theorem At.kept {h h' : Heap} {a : Addr} {vs : List Value} (m : At h a vs) (k : Kept h h') : At h' a vs := m.keeps k fun _ x => x
theorem Mem.kept {h h' : Heap} {a : Addr} {vs : List Value} (m : Mem h a vs) (k : Kept h h') : Mem h' a vs := m.keeps k fun _ x => x

theorem At.drop {h : Heap} {a : Addr} {vs : List Value} (m : At h a vs) (k : Nat) : At h (a.add k) (vs.drop k) := by
  refine ⟨fun hv => add_spot (m.1 fun e => hv (by rw [e]; simp)) k, fun i hi => ?_⟩
  simp only [List.length_drop] at hi
  rw [add_add (m.sp (i := k + i) (by omega)), List.getElem?_drop]
  exact m.2 (k + i) (by omega)

theorem At.take {h : Heap} {a : Addr} {vs : List Value} (m : At h a vs) (k : Nat) : At h a (vs.take k) := by
  refine ⟨fun hv => m.1 fun e => hv (by rw [e]; simp), fun i hi => ?_⟩
  simp only [List.length_take] at hi
  rw [List.getElem?_take, if_pos (by omega)]
  exact m.2 i (by omega)

theorem Mem.drop {h : Heap} {a : Addr} {vs : List Value} (m : Mem h a vs) (k : Nat) : Mem h (a.add k) (vs.drop k) := by
  refine ⟨m.1.drop k, fun i hi => ?_⟩
  simp only [List.length_drop] at hi
  rw [add_add (m.1.sp (i := k + i) (by omega))]
  exact m.2 (k + i) (by omega)

theorem Mem.take {h : Heap} {a : Addr} {vs : List Value} (m : Mem h a vs) (k : Nat) : Mem h a (vs.take k) := by
  refine ⟨m.1.take k, fun i hi => m.2 i ?_⟩
  simp only [List.length_take] at hi
  omega

theorem At.append {h : Heap} {a : Addr} {vs ws : List Value} (m : At h a vs) (n : At h (a.add vs.length) ws) (hs : a.spot = none) : At h a (vs ++ ws) := by
  refine ⟨fun _ => hs, fun i hi => ?_⟩
  by_cases hl : i < vs.length
  · rw [List.getElem?_append_left hl]; exact m.2 i hl
  · have := n.2 (i - vs.length) (by simp at hi; omega)
    rw [add_add hs] at this
    rw [List.getElem?_append_right (by omega), ← this]
    congr 2; omega

theorem rdC_of {h : Heap} {a : Addr} : ∀ {vs : List Value} {i : Nat}, (∀ j, j < vs.length → hcell h (a.add (i + j)) = vs[j]?) → rdC h a i vs.length = some vs
  | [], _, _ => rfl
  | v :: vs, i, hc => by
    have h0 := hc 0 (by simp)
    simp only [Nat.add_zero, List.getElem?_cons_zero] at h0
    have h1 := rdC_of (h := h) (a := a) (vs := vs) (i := i + 1) fun j hj => by
      have := hc (j + 1) (by simp; omega)
      rw [List.getElem?_cons_succ] at this
      rw [← this]; congr 2; omega
    simp only [List.length_cons, rdC, h0, h1]

theorem At.rd {h : Heap} {a : Addr} {vs : List Value} (m : At h a vs) {n : Nat} (hn : vs.length = n) : rdC h a 0 n = some vs := by
  subst hn; exact rdC_of fun j hj => by rw [Nat.zero_add]; exact m.2 j hj

/-! ### Stores -/

theorem hset_size (h : Heap) (a : Addr) (v : Value) : (hset h a v).size = h.size := by simp [hset]

theorem hset_keeps (h : Heap) (a : Addr) (v : Value) : Keeps (fun b => b = a.block) h (hset h a v) :=
  ⟨by rw [hset_size]; exact Nat.le_refl _, fun b _ hn => by
    simp only [hset, Array.getElem?_modify]
    rw [if_neg (fun e => hn e.symm)]⟩

theorem hset_cell {h : Heap} {a b : Addr} {v u : Value} (ha : a.spot = none) (hb : b.spot = none) (hc : hcell h a = some u) :
    hcell (hset h a v) b = if a = b then some v else hcell h b := by
  unfold hcell hset at *
  simp only [Array.getElem?_modify]
  by_cases hbl : a.block = b.block
  · rw [if_pos hbl, ← hbl]
    cases ho : h[a.block]? with
    | none => simp [ho] at hc
    | some o =>
      rw [ho] at hc
      cases o <;> simp at hc
      rename_i c t f
      have hc := hc.2
      simp only [Option.map_some, ha, hb, Option.isSome_none, Bool.false_eq_true, if_false]
      by_cases ho : a.off = b.off
      · have : a = b := by cases a; cases b; simp_all
        subst this
        have hlt := (Array.getElem?_eq_some_iff.1 hc).1
        simp [hlt]
      · have : a ≠ b := fun e => ho (by rw [e])
        rw [if_neg this]
        simp [Array.getElem?_setIfInBounds_ne ho]
  · have : a ≠ b := fun e => hbl (by rw [e])
    rw [if_neg hbl, if_neg this]

theorem hset_frozen (h : Heap) (a b : Addr) (v : Value) : hfrozen (hset h a v) b = hfrozen h b := by
  unfold hfrozen hset
  simp only [Array.getElem?_modify]
  by_cases e : a.block = b.block
  · rw [if_pos e]
    cases h[b.block]? with
    | none => rfl
    | some o => cases o <;> rfl
  · rw [if_neg e]

theorem add_inj {a : Addr} (h : a.spot = none) {i j : Nat} (e : a.add i = a.add j) : i = j := by
  rw [add_off h, add_off h] at e
  simpa using e

theorem Mem.st1 {h : Heap} {a : Addr} {vs : List Value} (m : Mem h a vs) {i : Nat} (hi : i < vs.length) (v : Value) : Mem (hset h (a.add i) v) a (vs.set i v) := by
  have hc := m.1.2 i hi
  rw [List.getElem?_eq_getElem hi] at hc
  have hs := m.1.sp hi
  refine ⟨⟨fun _ => hs, fun j hj => ?_⟩, fun j hj => by rw [hset_frozen]; exact m.2 j (by simpa using hj)⟩
  simp only [List.length_set] at hj
  rw [hset_cell (add_spot hs i) (add_spot hs j) hc]
  by_cases e : i = j
  · subst e; simp [hj]
  · rw [if_neg (fun x => e (add_inj hs x)), List.getElem?_set_ne e]; exact m.1.2 j hj

/-- A row elsewhere in the same block. -/
theorem At.st1_other {h : Heap} {a b : Addr} {vs : List Value} {v u : Value} (m : At h a vs) (hb : b.spot = none) (hc : hcell h b = some u) (hne : ∀ i, i < vs.length → b ≠ a.add i) : At (hset h b v) a vs :=
  ⟨m.1, fun i hi => by rw [hset_cell hb (add_spot (m.sp hi) i) hc, if_neg (hne i hi)]; exact m.2 i hi⟩

theorem stC_one {h : Heap} {a : Addr} {v u : Value} (hc : hcell h a = some u) (hf : hfrozen h a = false) (ho : one v = true) : stC h a 0 [v] = some (hset h a v) := by
  simp [stC, add_zero, hc, hf, ho]

theorem Mem.stc {h : Heap} {a : Addr} {vs : List Value} (m : Mem h a vs) {i : Nat} (hi : i < vs.length) {v : Value} (ho : one v = true) : stC h (a.add i) 0 [v] = some (hset h (a.add i) v) := by
  have hc := m.1.2 i hi
  rw [List.getElem?_eq_getElem hi] at hc
  exact stC_one hc (m.2 i hi) ho

/-- Many cells are written. -/
theorem stC_many {a : Addr} : ∀ {ws : List Value} {h : Heap} {vs : List Value} {i : Nat}, Mem h a vs → i + ws.length ≤ vs.length → (∀ w ∈ ws, one w = true) →
    ∃ h', stC h a i ws = some h' ∧ Mem h' a (vs.take i ++ ws ++ vs.drop (i + ws.length)) ∧ Keeps (fun b => b = a.block) h h' ∧ h'.size = h.size
  | [], h, vs, i, m, _, _ => ⟨h, rfl, by simpa using m, Keeps.refl _ h, rfl⟩
  | w :: ws, h, vs, i, m, hl, ho => by
    simp only [List.length_cons] at hl
    have hi : i < vs.length := by omega
    have hc := m.1.2 i hi
    rw [List.getElem?_eq_getElem hi] at hc
    obtain ⟨h', h1, h2, h3, h4⟩ := stC_many (ws := ws) (i := i + 1) (m.st1 hi w) (by simp; omega) (fun x hx => ho x (List.mem_cons_of_mem _ hx))
    refine ⟨h', ?_, ?_, ?_, by rw [h4, hset_size]⟩
    · simp only [Go.Lift.stC, hc, m.2 i hi, ho w (List.mem_cons_self ..), true_and, if_true]
      exact h1
    · have e : (vs.set i w).take (i + 1) ++ ws ++ (vs.set i w).drop (i + 1 + ws.length) = vs.take i ++ (w :: ws) ++ vs.drop (i + (ws.length + 1)) := by
        rw [List.take_succ_eq_append_getElem (by simpa using hi), List.getElem_set_self, List.take_set_of_le (Nat.le_refl _), List.drop_set_of_lt (by omega)]
        simp [Nat.add_assoc, Nat.add_comm 1]
      rw [e] at h2
      simpa using h2
    · have k := hset_keeps h (a.add i) w
      rw [add_block] at k
      exact k.trans h3

/-! ### New rows -/

theorem al_size (h : Heap) (cs : Array Value) (t : TypeId) : (al h cs t).size = h.size + 1 := by simp [al]

theorem Mem.new (h : Heap) (vs : List Value) (t : TypeId) : Mem (al h vs.toArray t) (top h) vs := by
  have e : (Go.Lift.al h vs.toArray t)[h.size]? = some (.cells vs.toArray t (0, 0)) := by simp [Go.Lift.al]
  refine ⟨⟨fun _ => rfl, fun i hi => ?_⟩, fun i hi => ?_⟩
  · rw [add_off rfl]
    simp [hcell, top, e]
  · rw [add_off rfl]
    simp [hfrozen, top, e]

end Go.Lift
