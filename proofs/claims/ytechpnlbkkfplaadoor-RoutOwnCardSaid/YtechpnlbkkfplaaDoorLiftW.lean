/- Rows of keys and values that rise by their keys. -/
import Derived.Test.YtechpnlbkkfplaaDoorLiftPm
import Derived.Test.YtechpnlbkkfplaaDoorLiftM
set_option linter.unusedVariables false
set_option linter.unusedSimpArgs false
set_option linter.unusedSectionVars false
namespace Go.Lift

section
variable {ν : Type}

/-- Rising by the keys. -/
abbrev Up (W : List (Int × ν)) : Prop := W.Pairwise fun a b => a.1 < b.1

theorem Up.nodup {W : List (Int × ν)} (u : Up W) : (W.map Prod.fst).Nodup := by
  rw [List.nodup_iff_pairwise_ne, List.pairwise_map]
  exact u.imp fun h => Int.ne_of_lt h
theorem get?_of_mem {κ : Type} [DecidableEq κ] : ∀ {W : List (κ × ν)} {k : κ} {v : ν}, (W.map Prod.fst).Nodup → (k, v) ∈ W → get? W k = some v
  | [], _, _, _, h => by cases h
  | (k', v') :: t, k, v, hn, h => by
    simp only [List.map_cons, List.nodup_cons] at hn
    have sh := fnd_shift t k 0 1
    unfold get? fnd
    by_cases e : k = k'
    · subst e
      rw [if_pos rfl]
      rcases List.mem_cons.1 h with h1 | h1
      · cases h1; rfl
      · exact absurd (List.mem_map.2 ⟨_, h1, rfl⟩) hn.1
    · rw [if_neg e]
      rcases List.mem_cons.1 h with h1 | h1
      · cases h1; exact absurd rfl e
      · have ih := get?_of_mem hn.2 h1
        unfold get? at ih
        simp only [Nat.zero_add] at sh ⊢
        rw [sh, Option.map_map]
        exact ih
theorem get?_iff {κ : Type} [DecidableEq κ] {W : List (κ × ν)} (hn : (W.map Prod.fst).Nodup) {k : κ} {v : ν} : get? W k = some v ↔ (k, v) ∈ W := ⟨get?_mem, get?_of_mem hn⟩
theorem get?_mapv {κ ν μ : Type} [DecidableEq κ] (f : ν → μ) (W : List (κ × ν)) (k : κ) : get? (W.map fun x => (x.1, f x.2)) k = (get? W k).map f := by
  have go : ∀ (W : List (κ × ν)) (i : Nat), (fnd (W.map fun x => (x.1, f x.2)) k i).map (·.2) = ((fnd W k i).map (·.2)).map f := by
    intro W
    induction W with
    | nil => intro i; rfl
    | cons x t ih =>
      intro i
      obtain ⟨k', v⟩ := x
      simp only [List.map_cons, fnd]
      by_cases e : k = k'
      · rw [if_pos e, if_pos e]; rfl
      · rw [if_neg e, if_neg e]; exact ih _
  exact go W 0

/-- Two rising rows that say the same are one. -/
theorem Up.ext : ∀ {W W' : List (Int × ν)}, Up W → Up W' → (∀ x, x ∈ W ↔ x ∈ W') → W = W'
  | [], [], _, _, _ => rfl
  | [], y :: _, _, _, h => by have := (h y).2 (by simp); cases this
  | x :: _, [], _, _, h => by have := (h x).1 (by simp); cases this
  | x :: r, y :: s, u, v, h => by
    have ux := List.pairwise_cons.1 u
    have vy := List.pairwise_cons.1 v
    have e : x = y := by
      rcases List.mem_cons.1 ((h x).1 (by simp)) with e | e
      · exact e
      · rcases List.mem_cons.1 ((h y).2 (by simp)) with e2 | e2
        · exact e2.symm
        · have := ux.1 _ e2; have := vy.1 _ e; omega
    subst e
    rw [Up.ext ux.2 vy.2 fun z => ⟨fun hz => ?_, fun hz => ?_⟩]
    · rcases List.mem_cons.1 ((h z).1 (List.mem_cons_of_mem _ hz)) with e | e
      · subst e; have := ux.1 _ hz; omega
      · exact e
    · rcases List.mem_cons.1 ((h z).2 (List.mem_cons_of_mem _ hz)) with e | e
      · subst e; have := vy.1 _ hz; omega
      · exact e
theorem Up.extG {W W' : List (Int × ν)} (u : Up W) (v : Up W') (h : ∀ k, get? W k = get? W' k) : W = W' :=
  u.ext v fun x => by rw [show x = (x.1, x.2) from rfl, ← get?_iff u.nodup, ← get?_iff v.nodup, h]

/-- Put in where it belongs. -/
def ins : List (Int × ν) → Int → ν → List (Int × ν)
  | [], k, v => [(k, v)]
  | x :: r, k, v => if x.1 < k then x :: ins r k v else (k, v) :: x :: r

theorem ins_mem : ∀ {W : List (Int × ν)} {k : Int} {v : ν} {x : Int × ν}, x ∈ ins W k v ↔ x = (k, v) ∨ x ∈ W
  | [], _, _, _ => by simp [ins]
  | y :: r, k, v, x => by
    unfold ins
    split
    · rw [List.mem_cons, ins_mem, List.mem_cons]
      exact ⟨fun h => by rcases h with h | h | h <;> simp [h], fun h => by rcases h with h | h | h <;> simp [h]⟩
    · rw [List.mem_cons]
theorem Up.ins : ∀ {W : List (Int × ν)} {k : Int} {v : ν}, Up W → k ∉ W.map Prod.fst → Up (Lift.ins W k v)
  | [], _, _, _, _ => by unfold Lift.ins; exact List.pairwise_singleton ..
  | y :: r, k, v, u, hk => by
    have uy := List.pairwise_cons.1 u
    simp only [List.map_cons, List.mem_cons, not_or] at hk
    unfold Lift.ins
    split
    · refine List.pairwise_cons.2 ⟨fun z hz => ?_, Up.ins uy.2 hk.2⟩
      rcases ins_mem.1 hz with e | e
      · subst e; assumption
      · exact uy.1 z e
    · refine List.pairwise_cons.2 ⟨fun z hz => ?_, u⟩
      have : k < y.1 := by have := hk.1; omega
      rcases List.mem_cons.1 hz with e | e
      · subst e; exact this
      · exact Int.lt_trans this (uy.1 z e)
theorem ins_len : ∀ (W : List (Int × ν)) (k : Int) (v : ν), (ins W k v).length = W.length + 1
  | [], _, _ => rfl
  | y :: r, k, v => by unfold ins; split <;> simp [ins_len r]
theorem Up.get?_ins {W : List (Int × ν)} {k : Int} {v : ν} (u : Up W) (hk : k ∉ W.map Prod.fst) (j : Int) : get? (Lift.ins W k v) j = if j = k then some v else get? W j := by
  have ui := u.ins (v := v) hk
  by_cases e : j = k
  · rw [if_pos e]
    exact (get?_iff ui.nodup).2 (ins_mem.2 (.inl (by rw [e])))
  · rw [if_neg e]
    cases h : get? W j with
    | none =>
      refine get?_none.2 fun hm => ?_
      obtain ⟨x, hx, rfl⟩ := List.mem_map.1 hm
      rcases ins_mem.1 hx with e2 | e2
      · subst e2; exact e rfl
      · exact get?_none.1 h (List.mem_map.2 ⟨x, e2, rfl⟩)
    | some w => exact (get?_iff ui.nodup).2 (ins_mem.2 (.inr (get?_mem h)))
/-- At its place. -/
theorem ins_at {W : List (Int × ν)} {k : Int} {v : ν} : ∀ {i : Nat}, (∀ j x, j < i → W[j]? = some x → x.1 < k) → (∀ x, W[i]? = some x → ¬ x.1 < k) → i ≤ W.length → ins W k v = W.take i ++ (k, v) :: W.drop i := by
  induction W with
  | nil => intro i _ _ hi; have : i = 0 := by simpa using hi
           subst this; rfl
  | cons y r ih =>
    intro i h1 h2 hi
    cases i with
    | zero =>
      have := h2 y rfl
      unfold ins
      rw [if_neg this]; rfl
    | succ i =>
      have := h1 0 y (by omega) rfl
      unfold ins
      rw [if_pos this, ih (i := i) (fun j x hj hx => h1 (j + 1) x (by omega) (by simpa using hx)) (fun x hx => h2 x (by simpa using hx)) (by simpa using hi)]
      rfl
theorem upd_fst {κ : Type} [DecidableEq κ] : ∀ {W : List (κ × ν)} {k : κ} {v : ν}, k ∈ W.map Prod.fst → (upd W k v).map Prod.fst = W.map Prod.fst
  | [], _, _, h => by simp at h
  | (k', v') :: t, k, v, h => by
    unfold upd
    split
    · rename_i e; subst e; rfl
    · rename_i e
      have : k ∈ t.map Prod.fst := by
        rcases List.mem_cons.1 (by simpa using h : k ∈ k' :: t.map Prod.fst) with h1 | h1
        · exact absurd h1 e
        · exact h1
      simp [upd_fst this]
theorem up_iff {W : List (Int × ν)} : Up W ↔ (W.map Prod.fst).Pairwise (· < ·) := by rw [List.pairwise_map]
theorem Up.upd {W : List (Int × ν)} {k : Int} {v : ν} (u : Up W) (hk : k ∈ W.map Prod.fst) : Up (Lift.upd W k v) := by
  rw [up_iff, upd_fst hk, ← up_iff]; exact u
theorem upd_mem {κ : Type} [DecidableEq κ] {W : List (κ × ν)} (hn : (W.map Prod.fst).Nodup) {k : κ} {v : ν} (x : κ × ν) : x ∈ upd W k v ↔ x = (k, v) ∨ (x ∈ W ∧ x.1 ≠ k) := by
  have hu := (upd_keys (v := v) (k := k) hn).1
  rw [show x = (x.1, x.2) from rfl, ← get?_iff hu, get?_upd, ← get?_iff hn]
  by_cases e : x.1 = k
  · simp [e]; exact eq_comm
  · simp [e]
theorem upd_len {κ : Type} [DecidableEq κ] {W : List (κ × ν)} {k : κ} {v : ν} (hk : k ∈ W.map Prod.fst) : (upd W k v).length = W.length := by
  have := congrArg List.length (upd_fst (v := v) hk)
  simpa using this
theorem del_mem_iff {κ : Type} [DecidableEq κ] {W : List (κ × ν)} (hn : (W.map Prod.fst).Nodup) {k : κ} (x : κ × ν) : x ∈ del W k ↔ x ∈ W ∧ x.1 ≠ k := by
  rw [show x = (x.1, x.2) from rfl, ← get?_iff (del_keys hn), get?_del _ _ _ hn, ← get?_iff hn]
  by_cases e : x.1 = k <;> simp [e]
theorem del_sub {κ : Type} [DecidableEq κ] : ∀ (kvs : List (κ × ν)) (k : κ), (del kvs k).Sublist kvs
  | [], _ => List.Sublist.refl _
  | (k', v) :: r, k => by
    unfold del
    split
    · exact List.sublist_cons_self _ _
    · exact (del_sub r k).cons_cons _
theorem del_len {κ : Type} [DecidableEq κ] : ∀ {kvs : List (κ × ν)} {k : κ}, k ∈ kvs.map Prod.fst → (del kvs k).length + 1 = kvs.length
  | [], k, h => by simp at h
  | (k', v) :: r, k, h => by
    unfold del
    split
    · rfl
    · rename_i hne
      have : k ∈ r.map Prod.fst := by
        rcases List.mem_cons.1 (by simpa using h : k ∈ k' :: r.map Prod.fst) with e | e
        · exact absurd e hne
        · exact e
      simp [del_len this]
theorem Up.del {W : List (Int × ν)} {k : Int} (u : Up W) : Up (Lift.del W k) := u.sublist (del_sub W k)

/-- Two rising rows of the same numbers are one. -/
theorem perm_le : ∀ {a b : List Int}, a.Perm b → a.Pairwise (· ≤ ·) → b.Pairwise (· ≤ ·) → a = b
  | [], b, p, _, _ => by rw [List.nil_perm.1 p]
  | x :: r, [], p, _, _ => by have := p.length_eq; simp at this
  | x :: r, y :: s, p, u, v => by
    have ux := List.pairwise_cons.1 u
    have vy := List.pairwise_cons.1 v
    have e : x = y := by
      rcases List.mem_cons.1 (p.mem_iff.1 (List.mem_cons_self ..) : x ∈ y :: s) with e | e
      · exact e
      · rcases List.mem_cons.1 (p.mem_iff.2 (List.mem_cons_self ..) : y ∈ x :: r) with e2 | e2
        · exact e2.symm
        · have := ux.1 _ e2; have := vy.1 _ e; omega
    subst e
    rw [perm_le (List.perm_cons x |>.1 p) ux.2 vy.2]
theorem Up.keys_le {W : List (Int × ν)} (u : Up W) : (W.map Prod.fst).Pairwise (· ≤ ·) := (up_iff.1 u).imp Int.le_of_lt

/-! ### Rows by their places -/
/-- The numbers g 0, g 1, .. with what f says of each. -/
abbrev rw' (n : Nat) (g : Nat → Int) (f : Nat → ν) : List (Int × ν) := rowF n fun j => (g j, f j)
abbrev Mono (n : Nat) (g : Nat → Int) : Prop := ∀ i j, i < j → j < n → g i < g j
theorem rw_mem {n : Nat} {g : Nat → Int} {f : Nat → ν} {x : Int × ν} : x ∈ rw' n g f ↔ ∃ j, j < n ∧ x = (g j, f j) := by
  unfold rw' rowF
  rw [List.mem_map]
  exact ⟨fun ⟨j, h, e⟩ => ⟨j, List.mem_range.1 h, e.symm⟩, fun ⟨j, h, e⟩ => ⟨j, List.mem_range.2 h, e.symm⟩⟩
theorem Mono.up {n : Nat} {g : Nat → Int} (m : Mono n g) (f : Nat → ν) : Up (rw' n g f) := by
  unfold rw' rowF Up
  rw [List.pairwise_map]
  refine (List.pairwise_lt_range.imp_of_mem fun {a b} ha hb hab => ?_)
  exact m a b hab (List.mem_range.1 hb)
theorem Mono.inj {n : Nat} {g : Nat → Int} (m : Mono n g) {i j : Nat} (hi : i < n) (hj : j < n) (e : g i = g j) : i = j := by
  rcases Nat.lt_trichotomy i j with h | h | h
  · have := m i j h hj; omega
  · exact h
  · have := m j i h hi; omega
theorem Mono.get {n : Nat} {g : Nat → Int} (m : Mono n g) (f : Nat → ν) {j : Nat} (h : j < n) : get? (rw' n g f) (g j) = some (f j) :=
  get?_of_mem (m.up f).nodup (rw_mem.2 ⟨j, h, rfl⟩)
theorem rw_fst (n : Nat) (g : Nat → Int) (f : Nat → ν) : (rw' n g f).map Prod.fst = rowF n g := by unfold rw' rowF; rw [List.map_map]; rfl
theorem Mono.upd {n : Nat} {g : Nat → Int} (m : Mono n g) (f : Nat → ν) {j : Nat} (h : j < n) (v : ν) : Lift.upd (rw' n g f) (g j) v = rw' n g fun i => if i = j then v else f i := by
  have hk : g j ∈ (rw' n g f).map Prod.fst := List.mem_map.2 ⟨_, rw_mem.2 ⟨j, h, rfl⟩, rfl⟩
  refine ((m.up f).upd hk).ext (m.up _) fun x => ?_
  rw [upd_mem (m.up f).nodup, rw_mem, rw_mem]
  constructor
  · rintro (rfl | ⟨⟨i, hi, rfl⟩, hne⟩)
    · exact ⟨j, h, by simp⟩
    · exact ⟨i, hi, by rw [if_neg fun e => hne (by rw [e])]⟩
  · rintro ⟨i, hi, rfl⟩
    by_cases e : i = j
    · subst e; exact .inl (by simp)
    · exact .inr ⟨⟨i, hi, by rw [if_neg e]⟩, fun e2 => e (m.inj hi h e2)⟩
theorem rw_congr {n : Nat} {g : Nat → Int} {f f' : Nat → ν} (h : ∀ j, j < n → f j = f' j) : rw' n g f = rw' n g f' := by
  unfold rw' rowF
  exact List.map_congr_left fun j hj => by rw [h j (List.mem_range.1 hj)]
theorem rw_len (n : Nat) (g : Nat → Int) (f : Nat → ν) : (rw' n g f).length = n := rowF_len ..
theorem rowF_set {α : Type} {n k : Nat} (f : Nat → α) (h : k < n) (v : α) : (rowF n f).set k v = rowF n fun j => if j = k then v else f j := by
  apply List.ext_getElem?
  intro i
  rw [List.getElem?_set]
  by_cases hi : i < n
  · by_cases e : k = i
    · subst e; rw [if_pos rfl, rowF_get _ hi, rowF_len, if_pos hi, if_pos rfl]
    · rw [if_neg e, rowF_get _ hi, rowF_get _ hi, if_neg (fun x => e x.symm)]
  · have e : k ≠ i := by omega
    rw [if_neg e, List.getElem?_eq_none (by rw [rowF_len]; omega), List.getElem?_eq_none (by rw [rowF_len]; omega)]
theorem rowF_congr {α : Type} {n : Nat} {f f' : Nat → α} (h : ∀ j, j < n → f j = f' j) : rowF n f = rowF n f' := List.map_congr_left fun j hj => h j (List.mem_range.1 hj)
theorem rowF_const {α : Type} (n : Nat) (v : α) : rowF n (fun _ => v) = List.replicate n v := by
  apply List.ext_getElem?
  intro i
  by_cases hi : i < n
  · rw [rowF_get _ hi]; simp [hi]
  · rw [List.getElem?_eq_none (by rw [rowF_len]; omega), List.getElem?_eq_none (by simp; omega)]
theorem rowF_succ {α : Type} (n : Nat) (f : Nat → α) : rowF (n + 1) f = rowF n f ++ [f n] := by
  unfold rowF; rw [List.range_succ, List.map_append]; rfl
/-- What comes behind all is put in at the end. -/
theorem ins_end : ∀ {W : List (Int × ν)} {k : Int} {v : ν}, (∀ x ∈ W, x.1 < k) → ins W k v = W ++ [(k, v)]
  | [], _, _, _ => rfl
  | y :: r, k, v, h => by
    unfold ins
    rw [if_pos (h y (List.mem_cons_self ..)), ins_end fun x hx => h x (List.mem_cons_of_mem _ hx)]
    rfl
theorem Mono.mono {n m : Nat} {g : Nat → Int} (h : Mono n g) (hm : m ≤ n) : Mono m g := fun i j hij hj => h i j hij (by omega)
theorem Mono.ins_end {n : Nat} {g : Nat → Int} (m : Mono (n + 1) g) (f : Nat → ν) : Lift.ins (rw' n g f) (g n) (f n) = rw' (n + 1) g f := by
  rw [Lift.ins_end fun x hx => ?_]
  · exact (rowF_succ n _).symm
  · obtain ⟨j, hj, rfl⟩ := rw_mem.1 hx
    exact m j n hj (Nat.lt_succ_self n)
/-- How many of the first ones. -/
theorem filter_len {α : Type} (p : α → Bool) (a : List α) : (a.filter p).length + (a.filter fun x => !p x).length = a.length := by
  induction a with
  | nil => rfl
  | cons x r ih => cases h : p x <;> simp [h] <;> omega
theorem row_filter_lt {n t : Nat} (ht : t ≤ n) (g : Nat → Int) (f : Nat → ν) (p : Int × ν → Bool) (hp : ∀ j, j < n → p (g j, f j) = decide (j < t)) : ((rw' n g f).filter p).length = t := by
  induction n generalizing t with
  | zero => have : t = 0 := by omega
            subst this; rfl
  | succ n ih =>
    rw [show rw' (n + 1) g f = rw' n g f ++ [(g n, f n)] from rowF_succ n _, List.filter_append, List.length_append]
    by_cases h : t ≤ n
    · rw [ih h fun j hj => hp j (by omega)]
      simp [hp n (by omega)]; omega
    · have : t = n + 1 := by omega
      subst this
      rw [ih (t := n) (Nat.le_refl n) fun j hj => by rw [hp j (by omega)]; simp; omega]
      simp [hp n (by omega)]
theorem del_filter_len {κ : Type} [DecidableEq κ] (p : κ × ν → Bool) : ∀ {W : List (κ × ν)} {k : κ} {v : ν}, get? W k = some v → ((del W k).filter p).length + (if p (k, v) then 1 else 0) = (W.filter p).length
  | [], _, _, h => by simp [get?, fnd] at h
  | (k', v') :: t, k, v, h => by
    by_cases e : k = k'
    · subst e
      have : v' = v := by simpa [get?, fnd] using h
      subst this
      rw [show del ((k, v') :: t) k = t by unfold del; rw [if_pos rfl]]
      cases hp : p (k, v') <;> simp [hp]
    · have h2 : get? t k = some v := by
        have sh := fnd_shift t k 0 1
        unfold get? fnd at h
        rw [if_neg e] at h
        simp only [Nat.zero_add] at sh h
        rw [sh, Option.map_map] at h
        exact h
      have ih := del_filter_len p h2
      have ed : del ((k', v') :: t) k = (k', v') :: del t k := by rw [del.eq_def]; simp [e]
      rw [ed]
      cases hp : p (k', v') <;> simp [hp] <;> omega
theorem ins_filter_len (p : Int × ν → Bool) : ∀ (W : List (Int × ν)) (k : Int) (v : ν), ((ins W k v).filter p).length = (W.filter p).length + (if p (k, v) then 1 else 0)
  | [], k, v => by cases hp : p (k, v) <;> simp [ins, hp]
  | y :: t, k, v => by
    unfold ins
    split
    · have ih := ins_filter_len p t k v
      cases hp : p y <;> simp [hp] <;> omega
    · cases hp : p (k, v) <;> simp [hp]
end
end Go.Lift
