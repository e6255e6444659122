/- The lift's words on maps: what a map holds, as a row of keys and values; look up, set, delete, count. -/
import Derived.Test.YtechpnlbkkfplaaDoorLiftB
import Derived.MapKept
import Derived.WideLaws
set_option linter.unusedSimpArgs false
set_option linter.unusedSectionVars false
namespace Go.Lift

variable {κ ν : Type} [DecidableEq κ]

/-- The first place of a key. -/
def fnd : List (κ × ν) → κ → Nat → Option (Nat × ν)
  | [], _, _ => none
  | (k', v) :: t, k, i => if k = k' then some (i, v) else fnd t k (i + 1)

def get? (kvs : List (κ × ν)) (k : κ) : Option ν := (fnd kvs k 0).map (·.2)

def upd : List (κ × ν) → κ → ν → List (κ × ν)
  | [], k, v => [(k, v)]
  | (k', v') :: t, k, v => if k = k' then (k, v) :: t else (k', v') :: upd t k v

def del : List (κ × ν) → κ → List (κ × ν)
  | [], _ => []
  | (k', v') :: t, k => if k = k' then t else (k', v') :: del t k

/-- The entries stand for these keys and values. -/
def Stands (kk : κ → Value) (vv : ν → Value) (es : List MapEntry) (kvs : List (κ × ν)) : Prop := es.map (fun e => (e.key, e.val)) = kvs.map fun x => (kk x.1, vv x.2)

/-- A type of keys: how keys are written, found. -/
structure KeyL (P : Program) (kt : TypeId) (kk : κ → Value) : Prop where
  chk : ∀ (b : Bool) (k : κ) (w : World), (Instr.checkKey b 10000 kt (kk k)).run P w = .ok () w
  find : ∀ {ν : Type} (vv : ν → Value) (es : List MapEntry) (kvs : List (κ × ν)) (k : κ) (w : World), Stands kk vv es kvs → (Instr.findKey kt (kk k) es).run P w = .ok ((fnd kvs k 0).map fun x => (x.1, vv x.2)) w
  stays : ∀ k, Instr.sameBits 10000 (kk k) (kk k) = true

theorem findNow_of {ν : Type} {kk : κ → Value} {d : TypeDesc} (hk : ∀ a b, Instr.sameNow d (kk a) (kk b) = some (decide (a = b))) {vv : ν → Value} :
    ∀ (es : List MapEntry) (kvs : List (κ × ν)) (k : κ) (i : Nat), Stands kk vv es kvs → Instr.findNow d (kk k) es i = some ((fnd kvs k i).map fun x => (x.1, vv x.2))
  | [], [], _, _, _ => rfl
  | [], _ :: _, _, _, h => by simp [Stands] at h
  | _ :: _, [], _, _, h => by simp [Stands] at h
  | e :: es, (k', v) :: kvs, k, i, h => by
    simp only [Stands, List.map_cons, List.cons.injEq, Prod.mk.injEq] at h
    obtain ⟨⟨h1, h2⟩, h3⟩ := h
    simp only [Instr.findNow, h1, hk, fnd]
    by_cases e : k = k'
    · simp [e, h2]
    · simp only [e, decide_false, if_false]
      exact findNow_of hk es kvs k (i + 1) h3

/-- Keys that the model compares at once: whole numbers, texts. -/
theorem KeyL.now {P : Program} {kt : TypeId} {kk : κ → Value} {d : TypeDesc} (hd : P.underlying kt = some d) (hk : ∀ a b, Instr.sameNow d (kk a) (kk b) = some (decide (a = b)))
    (hc : ∀ (b : Bool) (k : κ) (w : World), (Instr.checkKey b 10000 kt (kk k)).run P w = .ok () w) (hs : ∀ k, Instr.sameBits 10000 (kk k) (kk k) = true) : KeyL P kt kk where
  chk := hc
  find vv es kvs k w h := by
    simp only [Instr.findKey, Sem.run_bind, Go.run_underlying hd, Result.andThen_ok, findNow_of hk es kvs k 0 h, Sem.run_pure]
  stays := hs

theorem KeyL.int {P : Program} {kt : TypeId} {k : IntKind} (hd : P.underlying kt = some (.int k)) : KeyL P kt (fun n : Int => .int k n) :=
  KeyL.now hd (fun a b => by simp only [Instr.sameNow, if_true, Option.some.injEq]; rw [Bool.eq_iff_iff]; simp) (fun b x w => _root_.Go.MapKept.run_checkKey hd (by simp [_root_.Go.MapKept.IsKey]) b 9999) (fun x => by simp [Instr.sameBits])

theorem KeyL.str {P : Program} {kt : TypeId} (hd : P.underlying kt = some .string) : KeyL P kt (fun s : List UInt8 => .string (mkS s)) :=
  KeyL.now hd (fun a b => by
      simp only [Instr.sameNow, Option.some.injEq]
      rw [Bool.eq_iff_iff, _root_.Go.MapKept.bytes_beq, decide_eq_true_eq]
      exact ⟨fun e => by rw [← sl_mkS a, ← sl_mkS b, e], fun e => by rw [e]⟩)
    (fun b x w => _root_.Go.MapKept.run_checkKey hd (by simp [_root_.Go.MapKept.IsKey]) b 9999) (fun x => (_root_.Go.MapKept.bytes_beq _ _).2 rfl)

theorem findAsking_of {P : Program} {kt : TypeId} {ν : Type} {kk : κ → Value} (hk : ∀ a b w, (Op.equal kt (kk a) (kk b)).run P w = .ok (decide (a = b)) w) {vv : ν → Value} :
    ∀ (es : List MapEntry) (kvs : List (κ × ν)) (k : κ) (i : Nat) (w : World), Stands kk vv es kvs → (Instr.findAsking kt (kk k) es i).run P w = .ok ((fnd kvs k i).map fun x => (x.1, vv x.2)) w
  | [], [], _, _, _, _ => by simp [Instr.findAsking, fnd]
  | [], _ :: _, _, _, _, h => by simp [Stands] at h
  | _ :: _, [], _, _, _, h => by simp [Stands] at h
  | e :: es, (k', v) :: kvs, k, i, w, h => by
    simp only [Stands, List.map_cons, List.cons.injEq, Prod.mk.injEq] at h
    obtain ⟨⟨h1, h2⟩, h3⟩ := h
    simp only [Instr.findAsking, h1, Sem.run_bind, hk, Result.andThen_ok, fnd]
    by_cases e : k = k'
    · simp [e, h2]
    · simp only [e, decide_false, Bool.false_eq_true, if_false]
      exact findAsking_of hk es kvs k (i + 1) w h3

/-- Keys that are asked. -/
theorem KeyL.ask {P : Program} {kt : TypeId} {kk : κ → Value} {d : TypeDesc} (hd : P.underlying kt = some d) (hn : ∀ a v, Instr.sameNow d (kk a) v = none) (hk : ∀ a b w, (Op.equal kt (kk a) (kk b)).run P w = .ok (decide (a = b)) w)
    (hc : ∀ (b : Bool) (k : κ) (w : World), (Instr.checkKey b 10000 kt (kk k)).run P w = .ok () w) (hs : ∀ k, Instr.sameBits 10000 (kk k) (kk k) = true) : KeyL P kt kk where
  chk := hc
  find vv es kvs k w h := by
    have := findAsking_of hk es kvs k 0 w h
    cases es with
    | nil =>
      cases kvs with
      | nil => simp [Instr.findKey, Go.run_underlying hd, Instr.findNow, fnd]
      | cons => simp [Stands] at h
    | cons e es => simp only [Instr.findKey, Sem.run_bind, Go.run_underlying hd, Result.andThen_ok, Instr.findNow, hn]; exact this
  stays := hs

/-- What a map holds: nothing where it is nil. Keys stand once; each entry was born before the clock. -/
def Mp (kk : κ → Value) (vv : ν → Value) (h : Heap) (m : Option Nat) (kvs : List (κ × ν)) : Prop :=
  match m with
  | none => kvs = []
  | some r => ∃ es clock, h[r]? = some (.map es clock) ∧ Stands kk vv es.toList kvs ∧ (kvs.map Prod.fst).Nodup ∧ (es.toList.map (·.born)).Nodup ∧ ∀ e ∈ es.toList, e.born < clock

theorem Mp.lt {kk : κ → Value} {vv : ν → Value} {h : Heap} {r : Nat} {kvs : List (κ × ν)} (m : Mp kk vv h (some r) kvs) : r < h.size := by
  obtain ⟨es, clock, hb, _⟩ := m
  exact (Array.getElem?_eq_some_iff.1 hb).1

theorem Mp.keeps {kk : κ → Value} {vv : ν → Value} {S : Nat → Prop} {h h' : Heap} {m : Option Nat} {kvs : List (κ × ν)} (x : Mp kk vv h m kvs) (k : Keeps S h h') (hs : ∀ r, m = some r → ¬ S r) : Mp kk vv h' m kvs := by
  cases m with
  | none => exact x
  | some r =>
    have hl := x.lt
    obtain ⟨es, clock, hb, hr⟩ := x
    exact ⟨es, clock, by rw [k.blk r hl (hs r rfl)]; exact hb, hr⟩

theorem Mp.kept {kk : κ → Value} {vv : ν → Value} {h h' : Heap} {m : Option Nat} {kvs : List (κ × ν)} (x : Mp kk vv h m kvs) (k : Kept h h') : Mp kk vv h' m kvs := x.keeps k fun _ _ x => x

/-- A new map. -/
theorem Mp.new (kk : κ → Value) (vv : ν → Value) (h : Heap) : Mp kk vv (h.push (.map #[] 0)) (some h.size) [] :=
  ⟨#[], 0, by simp, rfl, List.nodup_nil, List.nodup_nil, fun e he => by simp at he⟩

/-! ### Plain laws of the row -/

theorem fnd_shift : ∀ (kvs : List (κ × ν)) (k : κ) (i j : Nat), fnd kvs k (i + j) = (fnd kvs k i).map fun x => (x.1 + j, x.2)
  | [], _, _, _ => rfl
  | (k', v) :: t, k, i, j => by
    unfold fnd
    split
    · rfl
    · rw [← fnd_shift t k (i + 1) j]; congr 1; omega

theorem fnd_none : ∀ {kvs : List (κ × ν)} {k : κ} {i : Nat}, fnd kvs k i = none ↔ k ∉ kvs.map Prod.fst
  | [], _, _ => by simp [fnd]
  | (k', v) :: t, k, i => by
    unfold fnd
    by_cases e : k = k'
    · simp [e]
    · rw [if_neg e, fnd_none (kvs := t)]
      simp [e]

theorem fnd_some : ∀ {kvs : List (κ × ν)} {k : κ} {i : Nat} {x : Nat × ν}, fnd kvs k i = some x → i ≤ x.1 ∧ kvs[x.1 - i]? = some (k, x.2) ∧ ∀ w, upd kvs k w = kvs.set (x.1 - i) (k, w) ∧ del kvs k = kvs.eraseIdx (x.1 - i)
  | [], _, _, _, h => by simp [fnd] at h
  | (k', v) :: t, k, i, x, h => by
    unfold fnd at h
    by_cases e : k = k'
    · rw [if_pos e] at h
      cases h
      subst e
      simp [upd, del]
    · rw [if_neg e] at h
      obtain ⟨h1, h2, h3⟩ := fnd_some h
      have e1 : x.1 - i = (x.1 - (i + 1)) + 1 := by omega
      refine ⟨by omega, by rw [e1]; simpa using h2, fun w => ?_⟩
      obtain ⟨h4, h5⟩ := h3 w
      rw [e1]
      simp [upd, del, e, h4, h5]

theorem upd_none : ∀ {kvs : List (κ × ν)} {k : κ} {v : ν}, k ∉ kvs.map Prod.fst → upd kvs k v = kvs ++ [(k, v)]
  | [], _, _, _ => rfl
  | (k', v') :: t, k, v, h => by
    simp only [List.map_cons, List.mem_cons, not_or] at h
    unfold upd
    rw [if_neg h.1, upd_none h.2]
    rfl

theorem del_none : ∀ {kvs : List (κ × ν)} {k : κ}, k ∉ kvs.map Prod.fst → del kvs k = kvs
  | [], _, _ => rfl
  | (k', v') :: t, k, h => by
    simp only [List.map_cons, List.mem_cons, not_or] at h
    unfold del
    rw [if_neg h.1, del_none h.2]

theorem get?_upd : ∀ (kvs : List (κ × ν)) (k j : κ) (v : ν), get? (upd kvs k v) j = if j = k then some v else get? kvs j
  | [], k, j, v => by
    simp only [upd, get?, fnd]
    split <;> simp
  | (k', v') :: t, k, j, v => by
    have ih := get?_upd t k j v
    unfold upd
    by_cases e : k = k'
    · subst e
      simp only [if_true, get?, fnd]
      by_cases e2 : j = k
      · simp [e2]
      · simp [e2]
    · rw [if_neg e]
      simp only [get?, fnd] at ih ⊢
      by_cases e2 : j = k'
      · subst e2
        simp only [if_true, Option.map_some]
        rw [if_neg (fun x => e x.symm)]
      · rw [if_neg e2, if_neg e2]
        have a1 := fnd_shift (upd t k v) j 0 1
        have a2 := fnd_shift t j 0 1
        simp only [Nat.zero_add] at a1 a2 ⊢
        rw [a1, a2, Option.map_map, Option.map_map]
        exact ih

theorem del_mem : ∀ {kvs : List (κ × ν)} {k : κ} {x : κ × ν}, x ∈ del kvs k → x ∈ kvs
  | [], _, _, h => h
  | (k', v') :: t, k, x, h => by
    unfold del at h
    split at h
    · exact List.mem_cons_of_mem _ h
    · rcases List.mem_cons.1 h with rfl | h
      · exact List.mem_cons_self ..
      · exact List.mem_cons_of_mem _ (del_mem h)

theorem get?_del : ∀ (kvs : List (κ × ν)) (k j : κ), (kvs.map Prod.fst).Nodup → get? (del kvs k) j = if j = k then none else get? kvs j
  | [], k, j, _ => by simp [del, get?, fnd]
  | (k', v') :: t, k, j, hn => by
    simp only [List.map_cons, List.nodup_cons] at hn
    have ih := get?_del t k j hn.2
    unfold del
    by_cases e : k = k'
    · subst e
      rw [if_pos rfl]
      by_cases e2 : j = k
      · subst e2
        rw [if_pos rfl]
        simp only [get?]
        rw [fnd_none.2 hn.1]
        rfl
      · rw [if_neg e2]
        simp only [get?, fnd, if_neg e2]
        have a2 := fnd_shift t j 0 1
        simp only [Nat.zero_add] at a2 ⊢
        rw [a2, Option.map_map]
        rfl
    · rw [if_neg e]
      simp only [get?, fnd] at ih ⊢
      by_cases e2 : j = k'
      · subst e2
        simp only [if_true, Option.map_some]
        rw [if_neg (fun x => e x.symm)]
      · rw [if_neg e2, if_neg e2]
        have a1 := fnd_shift (del t k) j 0 1
        have a2 := fnd_shift t j 0 1
        simp only [Nat.zero_add] at a1 a2 ⊢
        rw [a1, a2, Option.map_map, Option.map_map]
        exact ih

theorem get?_mem {kvs : List (κ × ν)} {k : κ} {v : ν} (h : get? kvs k = some v) : (k, v) ∈ kvs := by
  unfold get? at h
  rw [Option.map_eq_some_iff] at h
  obtain ⟨x, h1, rfl⟩ := h
  exact List.mem_of_getElem? (fnd_some h1).2.1

theorem get?_none {kvs : List (κ × ν)} {k : κ} : get? kvs k = none ↔ k ∉ kvs.map Prod.fst := by
  unfold get?
  rw [Option.map_eq_none_iff, fnd_none]

theorem upd_keys {kvs : List (κ × ν)} {k : κ} {v : ν} (hn : (kvs.map Prod.fst).Nodup) : ((upd kvs k v).map Prod.fst).Nodup ∧ ∀ j, j ∈ (upd kvs k v).map Prod.fst ↔ j = k ∨ j ∈ kvs.map Prod.fst := by
  cases h : fnd kvs k 0 with
  | none =>
    have hk := fnd_none.1 h
    rw [upd_none hk]
    simp only [List.map_append, List.map_cons, List.map_nil]
    refine ⟨List.nodup_append.2 ⟨hn, by simp, fun a ha b hb e => hk (by simp at hb; subst hb; subst e; exact ha)⟩, fun j => by simp [or_comm]⟩
  | some x =>
    obtain ⟨h1, h2, h3⟩ := fnd_some h
    have hk : (upd kvs k v).map Prod.fst = kvs.map Prod.fst := by
      rw [(h3 v).1, List.map_set]
      apply List.ext_getElem?
      intro i
      rw [List.getElem?_set]
      split
      · rename_i e
        subst e
        rw [List.getElem?_map, h2]
        have hlt := (List.getElem?_eq_some_iff.1 h2).1
        simp [hlt]
        omega
      · rfl
    rw [hk]
    refine ⟨hn, fun j => ⟨.inr, fun h => h.elim (fun e => ?_) id⟩⟩
    subst e
    exact List.mem_map.2 ⟨_, List.mem_of_getElem? h2, rfl⟩

theorem del_keys {kvs : List (κ × ν)} {k : κ} (hn : (kvs.map Prod.fst).Nodup) : ((del kvs k).map Prod.fst).Nodup := by
  cases h : fnd kvs k 0 with
  | none => rw [del_none (fnd_none.1 h)]; exact hn
  | some x =>
    obtain ⟨h1, h2, h3⟩ := fnd_some h
    cases kvs with
    | nil => simp [fnd] at h
    | cons y ys =>
      rw [(h3 y.2).2]
      exact (List.eraseIdx_sublist ..).map Prod.fst |>.nodup hn

/-! ### The model's operations -/

theorem run_getMap {P : Program} {w : World} {r : Nat} {es : Array MapEntry} {clock : Nat} (hb : w.heap[r]? = some (.map es clock)) : (getObj r).run P w = .ok (.map es clock) w := _root_.Go.MapKept.run_getObj_map hb
theorem run_setMap {P : Program} {w : World} {r : Nat} {es : Array MapEntry} {clock : Nat} (o : Obj) (hb : w.heap[r]? = some (.map es clock)) : (setObj r o).run P w = .ok () { w with heap := w.heap.setIfInBounds r o } := _root_.Go.MapKept.run_setObj_map o hb

theorem setObj_keeps (h : Heap) (r : Nat) (o : Obj) : Keeps (fun i => i = r) h (h.setIfInBounds r o) :=
  ⟨by simp, fun b _ hn => by rw [Array.getElem?_setIfInBounds_ne (fun e => hn e.symm)]⟩

/-- 'm[k]', and 'v, ok := m[k]'. -/
theorem lookup_ok {P : Program} {t kt et : TypeId} {kk : κ → Value} {vv : ν → Value} (L : KeyL P kt kk) (ht : P.underlying t = some (.map kt et)) {z : Value} (hz : (P.info? et).bind (·.zero) = some z)
    {h : Heap} {m : Option Nat} {kvs : List (κ × ν)} (M : Mp kk vv h m kvs) {k : κ} {ok : Bool} {K : Value → Heap → Prop}
    (hK : K (if ok then .tuple #[(get? kvs k).elim z vv, .bool (get? kvs k).isSome] else (get? kvs k).elim z vv) h) : SemH P (Instr.lookup t (.map m) (kk k) ok) K h := by
  intro w hw
  obtain ⟨i, hi, hiz⟩ := Option.bind_eq_some_iff.1 hz
  have hzz : ∀ w : World, (zeroValue et).run P w = .ok z w := fun w => by simp [zeroValue, typeInfo, hi, hiz]
  refine ⟨_, w, ?_, by rw [hw]; exact hK, Rest.refl w⟩
  cases m with
  | none =>
    have e : kvs = [] := M
    subst e
    simp only [Instr.lookup, Go.run_underlying ht, Sem.run_bind, Result.andThen_ok, Sem.run_pure, L.chk]
    have hf := L.find vv [] [] k w rfl
    simp only [hf, fnd, Option.map_none, Result.andThen_ok, Sem.run_bind, hzz, Sem.run_pure, get?]
    cases ok <;> rfl
  | some r =>
    obtain ⟨es, clock, hb, hs, _⟩ := M
    rw [← hw] at hb
    simp only [Instr.lookup, Go.run_underlying ht, Sem.run_bind, run_getMap hb, Result.andThen_ok, Sem.run_pure, L.chk]
    have hf := L.find vv es.toList kvs k w hs
    rw [hf]
    cases hx : fnd kvs k 0 with
    | none =>
      simp only [Option.map_none, Result.andThen_ok, Sem.run_bind, hzz, Sem.run_pure, get?, hx]
      cases ok <;> rfl
    | some x =>
      simp only [Option.map_some, Result.andThen_ok, Sem.run_bind, Sem.run_pure, get?, hx]
      cases ok <;> rfl

theorem nodup_set_same {l : List Nat} {f : List Nat} (h : f = l) (hn : l.Nodup) : f.Nodup := h ▸ hn

/-- 'm[k] = v'. -/
theorem update_ok {P : Program} {t kt et : TypeId} {kk : κ → Value} {vv : ν → Value} (L : KeyL P kt kk) (ht : P.underlying t = some (.map kt et))
    {h : Heap} {r : Nat} {kvs : List (κ × ν)} (M : Mp kk vv h (some r) kvs) {k : κ} {v : ν} {K : Value → Heap → Prop}
    (hK : ∀ u h', Mp kk vv h' (some r) (upd kvs k v) → Keeps (fun i => i = r) h h' → h'.size = h.size → K u h') : SemH P (unit (Instr.mapUpdate t (.map (some r)) (kk k) (vv v))) K h := by
  intro w hw
  obtain ⟨es, clock, hb, hs, hn, hbn, hbl⟩ := M
  rw [← hw] at hb
  have hlt := (Array.getElem?_eq_some_iff.1 hb).1
  have hf := L.find vv es.toList kvs k w hs
  obtain ⟨hu1, hu2⟩ := upd_keys (k := k) (v := v) hn
  cases hx : fnd kvs k 0 with
  | none =>
    have hk := fnd_none.1 hx
    refine ⟨undef, { w with heap := w.heap.setIfInBounds r (.map (es.push { key := kk k, val := vv v, born := clock }) (clock + 1)) }, ?_, ?_, ⟨rfl, rfl, rfl⟩⟩
    · simp only [unit, Instr.mapUpdate, Go.run_underlying ht, Sem.run_bind, run_getMap hb, Result.andThen_ok, L.chk]
      rw [hf, hx]
      simp only [Option.map_none, Result.andThen_ok, run_setMap _ hb, Sem.run_pure]
    · rw [hw]
      have hr : r < h.size := by rw [← hw]; exact hlt
      refine hK _ _ ⟨es.push { key := kk k, val := vv v, born := clock }, clock + 1, by simp [hr], ?_, hu1, ?_, ?_⟩ (setObj_keeps _ _ _) (by simp)
      · rw [upd_none hk]
        simp only [Stands, Array.toList_push, List.map_append, List.map_cons, List.map_nil]
        rw [show es.toList.map (fun e => (e.key, e.val)) = _ from hs]
      · simp only [Array.toList_push, List.map_append, List.map_cons, List.map_nil]
        refine List.nodup_append.2 ⟨hbn, by simp, fun a ha b hb' e => ?_⟩
        simp only [List.mem_singleton] at hb'
        subst hb'; subst e
        obtain ⟨e, he, e2⟩ := List.mem_map.1 ha
        have := hbl e he
        omega
      · intro e he
        simp only [Array.toList_push, List.mem_append, List.mem_singleton] at he
        rcases he with he | rfl
        · have := hbl e he; omega
        · exact Nat.lt_succ_self _
  | some x =>
    obtain ⟨h1, h2, h3⟩ := fnd_some hx
    simp only [Nat.sub_zero] at h2 h3
    have hlen : es.toList.length = kvs.length := by have := congrArg List.length hs; simpa using this
    have hxl : x.1 < kvs.length := (List.getElem?_eq_some_iff.1 h2).1
    have hxe : x.1 < es.toList.length := by omega
    have hek : es[x.1]? = some es.toList[x.1] := by rw [← Array.getElem?_toList]; exact List.getElem?_eq_getElem hxe
    have hkey : es.toList[x.1].key = kk k := by
      have := congrArg (·[x.1]?) hs
      simp only [List.getElem?_map, h2, List.getElem?_eq_getElem hxe, Option.map_some, Option.some.injEq, Prod.mk.injEq] at this
      exact this.1
    refine ⟨undef, { w with heap := w.heap.setIfInBounds r (.map (es.modify x.1 fun e => { e with key := kk k, val := vv v }) clock) }, ?_, ?_, ⟨rfl, rfl, rfl⟩⟩
    · simp only [unit, Instr.mapUpdate, Go.run_underlying ht, Sem.run_bind, run_getMap hb, Result.andThen_ok, L.chk]
      rw [hf, hx]
      simp only [Option.map_some, Result.andThen_ok, Sem.run_bind, hek, Option.getD_some, hkey, Instr.keyThatStays, L.stays, if_true, Sem.run_pure, run_setMap _ hb]
    · rw [hw]
      have hr : r < h.size := by rw [← hw]; exact hlt
      have hm : (es.modify x.1 fun e => { e with key := kk k, val := vv v }).toList = es.toList.set x.1 { es.toList[x.1] with key := kk k, val := vv v } := by
        rw [Array.toList_modify]
        apply List.ext_getElem?
        intro j
        rw [List.getElem?_modify, List.getElem?_set]
        by_cases e : x.1 = j
        · subst e
          rw [if_pos rfl, if_pos hxe, List.getElem?_eq_getElem hxe]
          simp
        · rw [if_neg e]
          simp only [e, if_false]
          cases es.toList[j]? <;> rfl
      have hborn : (es.toList.set x.1 { es.toList[x.1] with key := kk k, val := vv v }).map (·.born) = es.toList.map (·.born) := by
        rw [List.map_set]
        apply List.ext_getElem?
        intro j
        rw [List.getElem?_set]
        split
        · rename_i e; subst e; rw [if_pos (by simpa using hxe), List.getElem?_map, List.getElem?_eq_getElem hxe]; rfl
        · rfl
      refine hK _ _ ⟨es.modify x.1 fun e => { e with key := kk k, val := vv v }, clock, by simp [hr], ?_, hu1, ?_, ?_⟩ (setObj_keeps _ _ _) (by simp)
      · rw [hm, (h3 v).1]
        simp only [Stands, List.map_set]
        rw [show es.toList.map (fun e => (e.key, e.val)) = _ from hs]
      · rw [hm, hborn]; exact hbn
      · intro e he
        have : e.born ∈ (es.modify x.1 fun e => { e with key := kk k, val := vv v }).toList.map (·.born) := List.mem_map.2 ⟨e, he, rfl⟩
        rw [hm, hborn] at this
        obtain ⟨e', he', e2⟩ := List.mem_map.1 this
        rw [← e2]
        exact hbl e' he'

/-- 'delete(m, k)'. -/
theorem delete_ok {P : Program} {t kt et kt' ty : TypeId} {kk : κ → Value} {vv : ν → Value} (L : KeyL P kt kk) (ht : P.underlying t = some (.map kt et))
    {h : Heap} {r : Nat} {kvs : List (κ × ν)} (M : Mp kk vv h (some r) kvs) {k : κ} {K : Value → Heap → Prop}
    (hK : ∀ h', Mp kk vv h' (some r) (del kvs k) → Keeps (fun i => i = r) h h' → h'.size = h.size → K (.tuple #[]) h') : SemH P (Builtin.delete_ #[t, kt'] ty #[.map (some r), kk k]) K h := by
  intro w hw
  obtain ⟨es, clock, hb, hs, hn, hbn, hbl⟩ := M
  rw [← hw] at hb
  have hlt := (Array.getElem?_eq_some_iff.1 hb).1
  have hr : r < h.size := by rw [← hw]; exact hlt
  have hf := L.find vv es.toList kvs k w hs
  cases hx : fnd kvs k 0 with
  | none =>
    refine ⟨.tuple #[], { w with heap := w.heap.setIfInBounds r (.map es clock) }, ?_, ?_, ⟨rfl, rfl, rfl⟩⟩
    · simp [Builtin.delete_, Go.run_underlying ht, run_getMap hb, L.chk, hf, hx, run_setMap _ hb]
    · rw [hw]
      refine hK _ ⟨es, clock, by simp [hr], ?_, del_keys hn, hbn, hbl⟩ (setObj_keeps _ _ _) (by simp)
      rw [del_none (fnd_none.1 hx)]
      exact hs
  | some x =>
    obtain ⟨h1, h2, h3⟩ := fnd_some hx
    simp only [Nat.sub_zero] at h2 h3
    have hlen : es.toList.length = kvs.length := by have := congrArg List.length hs; simpa using this
    have hxl : x.1 < kvs.length := (List.getElem?_eq_some_iff.1 h2).1
    have hm : (es.eraseIdxIfInBounds x.1).toList = es.toList.eraseIdx x.1 := by simp
    refine ⟨.tuple #[], { w with heap := w.heap.setIfInBounds r (.map (es.eraseIdxIfInBounds x.1) clock) }, ?_, ?_, ⟨rfl, rfl, rfl⟩⟩
    · simp [Builtin.delete_, Go.run_underlying ht, run_getMap hb, L.chk, hf, hx, run_setMap _ hb]
    · rw [hw]
      refine hK _ ⟨es.eraseIdxIfInBounds x.1, clock, by simp [hr], ?_, del_keys hn, ?_, ?_⟩ (setObj_keeps _ _ _) (by simp)
      · rw [hm, (h3 x.2).2]
        have key : ∀ {α β : Type} (f : α → β) (l : List α) (i : Nat), (l.eraseIdx i).map f = (l.map f).eraseIdx i := by
          intro α β f l
          induction l with
          | nil => intro i; simp
          | cons a t ih => intro i; cases i with
            | zero => rfl
            | succ i => simp [ih i]
        simp only [Stands, key]
        rw [show es.toList.map (fun e => (e.key, e.val)) = _ from hs]
      · rw [hm]
        exact (List.eraseIdx_sublist ..).map _ |>.nodup hbn
      · intro e he
        rw [hm] at he
        exact hbl e ((List.eraseIdx_sublist ..).subset he)

/-- 'len(m)'. -/
theorem lenMap_ok {P : Program} {t kt et ty : TypeId} {kk : κ → Value} {vv : ν → Value} (ht : P.underlying t = some (.map kt et)) {h : Heap} {m : Option Nat} {kvs : List (κ × ν)} (M : Mp kk vv h m kvs) {K : Value → Heap → Prop}
    (hK : K (.int .i64 (kvs.length : Nat)) h) : SemH P (Builtin.len_ #[t] ty #[.map m]) K h := by
  intro w hw
  refine ⟨_, w, ?_, by rw [hw]; exact hK, Rest.refl w⟩
  cases m with
  | none =>
    have e : kvs = [] := M
    subst e
    simp [Builtin.len_, Go.run_underlying ht, goInt]
  | some r =>
    obtain ⟨es, clock, hb, hs, _⟩ := M
    rw [← hw] at hb
    have hlen : es.toList.length = kvs.length := by have := congrArg List.length hs; simpa using this
    simp [Builtin.len_, Go.run_underlying ht, goInt, run_getMap hb]
    have : es.size = kvs.length := by simpa using hlen
    rw [this]

end Go.Lift
