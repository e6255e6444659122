/- Rows as functions: what moves elements within a part; sorted parts; heaps. -/
import Derived.Test.YtechpnlbkkfplaaDoorLiftSt
set_option linter.unusedSimpArgs false
set_option linter.unusedSectionVars false
set_option linter.unusedVariables false
namespace Go.Lift

section
variable {α : Type}

/-- f' has what f has, moved within [a, b). -/
def Pm (a b : Nat) (f f' : Nat → α) : Prop := ∃ σ τ : Nat → Nat, (∀ k, σ (τ k) = k) ∧ (∀ k, τ (σ k) = k) ∧ (∀ k, k < a ∨ b ≤ k → σ k = k) ∧ ∀ k, f' k = f (σ k)

theorem Pm.refl (a b : Nat) (f : Nat → α) : Pm a b f f := ⟨id, id, fun _ => rfl, fun _ => rfl, fun _ _ => rfl, fun _ => rfl⟩
theorem Pm.trans {a b : Nat} {f g e : Nat → α} (h : Pm a b f g) (k : Pm a b g e) : Pm a b f e := by
  obtain ⟨σ, τ, h1, h2, h3, h4⟩ := h
  obtain ⟨σ', τ', k1, k2, k3, k4⟩ := k
  exact ⟨fun x => σ (σ' x), fun x => τ' (τ x), fun x => by show σ (σ' (τ' (τ x))) = x; rw [k1, h1], fun x => by show τ' (τ (σ (σ' x))) = x; rw [h2, k2], fun x hx => by show σ (σ' x) = x; rw [k3 x hx, h3 x hx], fun x => by rw [k4, h4]⟩
theorem Pm.wide {a b a' b' : Nat} {f g : Nat → α} (h : Pm a b f g) (ha : a' ≤ a) (hb : b ≤ b') : Pm a' b' f g := by
  obtain ⟨σ, τ, h1, h2, h3, h4⟩ := h
  exact ⟨σ, τ, h1, h2, fun k hk => h3 k (by omega), h4⟩
theorem Pm.out {a b : Nat} {f g : Nat → α} (h : Pm a b f g) {k : Nat} (hk : k < a ∨ b ≤ k) : g k = f k := by
  obtain ⟨σ, τ, h1, h2, h3, h4⟩ := h
  rw [h4, h3 k hk]
theorem Pm.inn {a b : Nat} {f g : Nat → α} (h : Pm a b f g) {k : Nat} (hk : a ≤ k ∧ k < b) : ∃ j, a ≤ j ∧ j < b ∧ g k = f j := by
  obtain ⟨σ, τ, h1, h2, h3, h4⟩ := h
  refine ⟨σ k, ?_, ?_, h4 k⟩
  · by_cases h : σ k < a
    · have := h3 (σ k) (.inl h)
      have := congrArg τ this
      rw [h2, h2] at this
      omega
    · omega
  · by_cases h : b ≤ σ k
    · have := h3 (σ k) (.inr h)
      have := congrArg τ this
      rw [h2, h2] at this
      omega
    · omega
theorem Pm.all {a b : Nat} {f g : Nat → α} (h : Pm a b f g) {Q : α → Prop} (hq : ∀ k, a ≤ k → k < b → Q (f k)) : ∀ k, a ≤ k → k < b → Q (g k) := by
  intro k h1 h2
  obtain ⟨j, j1, j2, j3⟩ := h.inn ⟨h1, h2⟩
  rw [j3]
  exact hq j j1 j2

/-- Two change places. -/
def swp (f : Nat → α) (i j : Nat) : Nat → α := fun k => if k = i then f j else if k = j then f i else f k
theorem swp_pm {a b i j : Nat} (f : Nat → α) (hi : a ≤ i ∧ i < b) (hj : a ≤ j ∧ j < b) : Pm a b f (swp f i j) := by
  have inv : ∀ k, (if (if k = i then j else if k = j then i else k) = i then j else if (if k = i then j else if k = j then i else k) = j then i else (if k = i then j else if k = j then i else k)) = k := by
    intro k
    by_cases h1 : k = i
    · subst h1
      simp only [if_true]
      by_cases h2 : j = k
      · simp [h2]
      · simp [h2]
    · by_cases h2 : k = j
      · subst h2; simp [h1]
      · simp [h1, h2]
  refine ⟨fun k => if k = i then j else if k = j then i else k, fun k => if k = i then j else if k = j then i else k, inv, inv, ?_, ?_⟩
  · intro k hk
    show (if k = i then j else if k = j then i else k) = k
    rw [if_neg (by omega), if_neg (by omega)]
  · intro k
    unfold swp
    show _ = f (if k = i then j else if k = j then i else k)
    by_cases h1 : k = i
    · rw [if_pos h1, if_pos h1]
    · by_cases h2 : k = j
      · rw [if_neg h1, if_pos h2, if_neg h1, if_pos h2]
      · rw [if_neg h1, if_neg h2, if_neg h1, if_neg h2]

/-- The row of n elements. -/
def rowF (n : Nat) (f : Nat → α) : List α := (List.range n).map f
theorem rowF_len (n : Nat) (f : Nat → α) : (rowF n f).length = n := by simp [rowF]
theorem rowF_get {n i : Nat} (f : Nat → α) (h : i < n) : (rowF n f)[i]? = some (f i) := by simp [rowF, h]
theorem rowF_of (xs : List α) (d : α) : rowF xs.length (fun i => xs.getD i d) = xs := by
  apply List.ext_getElem?
  intro i
  by_cases h : i < xs.length
  · rw [rowF_get _ h, List.getElem?_eq_getElem h]; simp [List.getD, h]
  · rw [List.getElem?_eq_none (by simp [rowF]; omega), List.getElem?_eq_none (by omega)]
theorem Pm.perm {n : Nat} {f g : Nat → α} (h : Pm 0 n f g) : (rowF n g).Perm (rowF n f) := by
  obtain ⟨σ, τ, h1, h2, h3, h4⟩ := h
  have e : rowF n g = ((List.range n).map σ).map f := by
    unfold rowF
    rw [List.map_map]
    exact List.map_congr_left fun x _ => h4 x
  rw [e]
  refine List.Perm.map f ?_
  have inj : ∀ x y, σ x = σ y → x = y := fun x y e => by have := congrArg τ e; rwa [h2, h2] at this
  have hin : ∀ x, x < n → σ x < n := fun x hx => by
    by_cases h : σ x < n
    · exact h
    · have := inj _ _ (h3 (σ x) (.inr (by omega)))
      omega
  rw [List.perm_ext_iff_of_nodup]
  · intro x
    simp only [List.mem_map, List.mem_range]
    constructor
    · rintro ⟨y, hy, rfl⟩; exact hin y hy
    · intro hx
      refine ⟨τ x, ?_, h1 x⟩
      by_cases h : τ x < n
      · exact h
      · have := h3 (τ x) (.inr (by omega))
        rw [h1] at this
        omega
  · rw [List.nodup_iff_pairwise_ne, List.pairwise_map]
    exact List.nodup_range.imp fun h e => h (inj _ _ e)
  · exact List.nodup_range
end

/-- An order of a kind. -/
structure Ord (α : Type) where
  lt : α → α → Bool
  asym : ∀ x y, lt x y = true → lt y x = false
  trans : ∀ x y z, lt y x = false → lt z y = false → lt z x = false

namespace Ord
variable {α : Type} (o : Ord α)
def le (x y : α) : Prop := o.lt y x = false
theorem le_refl (x : α) : o.le x x := by
  unfold le
  cases h : o.lt x x
  · rfl
  · have := o.asym x x h; rw [h] at this; exact this
theorem le_trans {x y z : α} (h : o.le x y) (k : o.le y z) : o.le x z := o.trans x y z h k
theorem le_of_lt {x y : α} (h : o.lt x y = true) : o.le x y := o.asym x y h
theorem total (x y : α) : o.le x y ∨ o.le y x := by
  cases h : o.lt y x
  · exact .inl h
  · exact .inr (o.asym _ _ h)
/-- [a, b) rises. -/
def Srt (a b : Nat) (f : Nat → α) : Prop := ∀ i j, a ≤ i → i < j → j < b → o.le (f i) (f j)
theorem srt_adj {a b : Nat} {f : Nat → α} (h : ∀ i, a ≤ i → i + 1 < b → o.le (f i) (f (i + 1))) : o.Srt a b f := by
  intro i j hi hij hj
  obtain ⟨d, rfl⟩ : ∃ d, j = i + 1 + d := ⟨j - i - 1, by omega⟩
  clear hij
  induction d with
  | zero => exact h i hi (by omega)
  | succ d ih => exact o.le_trans (ih (by omega)) (h (i + 1 + d) (by omega) (by omega))
theorem srt_row {n : Nat} {f : Nat → α} (h : o.Srt 0 n f) : (rowF n f).Pairwise o.le := by
  unfold rowF
  rw [List.pairwise_map]
  have := List.pairwise_lt_range (n := n)
  refine (List.pairwise_lt_range (n := n)).imp_of_mem ?_
  intro i j hi hj hij
  exact h i j (Nat.zero_le _) hij (List.mem_range.1 hj)
end Ord
end Go.Lift

/-! ### Heaps -/
namespace Go.Lift
variable {α : Type}

/-- Parents from lo on have no less than their children below hi. -/
def Heapy (o : Ord α) (lo hi : Nat) (e : Nat → α) : Prop := ∀ k c, lo ≤ k → (c = 2 * k + 1 ∨ c = 2 * k + 2) → c < hi → o.le (e c) (e k)
/-- .. but perhaps r. -/
def HeapyBut (o : Ord α) (lo hi r : Nat) (e : Nat → α) : Prop :=
  (∀ k c, lo ≤ k → k ≠ r → (c = 2 * k + 1 ∨ c = 2 * k + 2) → c < hi → o.le (e c) (e k)) ∧ ∀ p c, lo ≤ p → (r = 2 * p + 1 ∨ r = 2 * p + 2) → (c = 2 * r + 1 ∨ c = 2 * r + 2) → c < hi → o.le (e c) (e p)

theorem HeapyBut.done {o : Ord α} {lo hi r : Nat} {e : Nat → α} (h : HeapyBut o lo hi r e) (hc : ∀ c, (c = 2 * r + 1 ∨ c = 2 * r + 2) → c < hi → o.le (e c) (e r)) : Heapy o lo hi e := by
  intro k c hk hcc hlt
  by_cases hr : k = r
  · subst hr; exact hc c hcc hlt
  · exact h.1 k c hk hr hcc hlt

theorem HeapyBut.step {o : Ord α} {lo hi r c : Nat} {e : Nat → α} (h : HeapyBut o lo hi r e) (hlo : lo ≤ r) (hc : c = 2 * r + 1 ∨ c = 2 * r + 2) (hlt : c < hi) (hrc : o.le (e r) (e c)) (hmax : ∀ d, (d = 2 * r + 1 ∨ d = 2 * r + 2) → d < hi → o.le (e d) (e c)) :
    HeapyBut o lo hi c (swp e r c) := by
  constructor
  · intro k d hk hne hd hdlt
    unfold swp
    by_cases hkr : k = r
    · subst hkr
      rw [if_pos rfl, if_neg (by omega)]
      by_cases hdc : d = c
      · rw [if_pos hdc]; exact hrc
      · rw [if_neg hdc]; exact hmax d hd hdlt
    · rw [if_neg hkr, if_neg hne]
      by_cases hdr : d = r
      · rw [if_pos hdr]
        exact h.2 k c hk (by omega) hc hlt
      · rw [if_neg hdr]
        have hdc : d ≠ c := by omega
        rw [if_neg hdc]
        exact h.1 k d hk hkr hd hdlt
  · intro p d hp hcp hd hdlt
    have : p = r := by omega
    subst this
    unfold swp
    rw [if_pos rfl, if_neg (by omega), if_neg (by omega)]
    exact h.1 c d (by omega) (by omega) hd hdlt

theorem Heapy.top {o : Ord α} {hi : Nat} {e : Nat → α} (h : Heapy o 0 hi e) : ∀ k, k < hi → o.le (e k) (e 0) := by
  intro k
  induction k using Nat.strongRecOn with
  | _ k ih =>
    intro hk
    by_cases h0 : k = 0
    · subst h0; exact o.le_refl _
    · exact o.le_trans (h ((k - 1) / 2) k (Nat.zero_le _) (by omega) hk) (ih ((k - 1) / 2) (by omega) (by omega))
end Go.Lift

/-! ### Steps of a sort -/
namespace Go.Lift
variable {α : Type}

/-- Up to i all rises, but for what stands at j. -/
def InsI (o : Ord α) (a i j : Nat) (f : Nat → α) : Prop := ∀ p q, a ≤ p → p < q → q ≤ i → q ≠ j → o.le (f p) (f q)
theorem InsI.start {o : Ord α} {a i : Nat} {f : Nat → α} (h : o.Srt a i f) : InsI o a i i f := fun p q hp hpq hq hne => h p q hp hpq (by omega)
theorem InsI.swap {o : Ord α} {a i j : Nat} {f : Nat → α} (h : InsI o a i j f) (hj : a < j) (hji : j ≤ i) (hlt : o.lt (f j) (f (j - 1)) = true) : InsI o a i (j - 1) (swp f j (j - 1)) := by
  intro p q hp hpq hq hne
  unfold swp
  by_cases hqj : q = j
  · subst hqj
    rw [if_pos rfl]
    by_cases hpj : p = q - 1
    · subst hpj
      rw [if_neg (by omega), if_pos rfl]
      exact o.le_of_lt hlt
    · rw [if_neg (by omega), if_neg hpj]
      exact h p (q - 1) hp (by omega) (by omega) (by omega)
  · rw [if_neg hqj, if_neg hne]
    by_cases hpj : p = j
    · subst hpj
      rw [if_pos rfl]
      exact h (p - 1) q (by omega) (by omega) hq hqj
    · rw [if_neg hpj]
      by_cases hpj1 : p = j - 1
      · subst hpj1
        rw [if_pos rfl]
        exact h j q (by omega) (by omega) hq hqj
      · rw [if_neg hpj1]
        exact h p q hp hpq hq hqj
theorem InsI.done {o : Ord α} {a i j : Nat} {f : Nat → α} (h : InsI o a i j f) (hji : j ≤ i) (he : a < j → o.lt (f j) (f (j - 1)) = false) : o.Srt a (i + 1) f := by
  intro p q hp hpq hq
  by_cases hqj : q = j
  · subst hqj
    have h1 : o.le (f (q - 1)) (f q) := he (by omega)
    by_cases hpj : p = q - 1
    · subst hpj; exact h1
    · exact o.le_trans (h p (q - 1) hp (by omega) (by omega) (by omega)) h1
  · exact h p q hp hpq (by omega) hqj

/-- Two parts about one that stands between. -/
theorem part_join {o : Ord α} {a mid b : Nat} {g : Nat → α} (hm : a ≤ mid ∧ mid < b) (h1 : o.Srt a mid g) (h2 : o.Srt (mid + 1) b g) (l1 : ∀ k, a ≤ k → k < mid → o.le (g k) (g mid)) (l2 : ∀ k, mid < k → k < b → o.le (g mid) (g k)) : o.Srt a b g := by
  intro p q hp hpq hq
  by_cases hqm : q < mid
  · exact h1 p q hp hpq hqm
  · by_cases hqe : q = mid
    · subst hqe; exact l1 p hp hpq
    · by_cases hpm : p < mid
      · exact o.le_trans (l1 p hp hpm) (l2 q (by omega) hq)
      · by_cases hpe : p = mid
        · subst hpe; exact l2 q hpq hq
        · exact h2 p q (by omega) hpq hq
theorem two_join {o : Ord α} {a mid b : Nat} {g : Nat → α} (h1 : o.Srt a mid g) (h2 : o.Srt mid b g) (l : ∀ p q, a ≤ p → p < mid → mid ≤ q → q < b → o.le (g p) (g q)) : o.Srt a b g := by
  intro p q hp hpq hq
  by_cases hqm : q < mid
  · exact h1 p q hp hpq hqm
  · by_cases hpm : p < mid
    · exact l p q hp hpm (by omega) hq
    · exact h2 p q (by omega) hpq hq

/-- Where a sort stands: [a, b) of [a0, b0) is left. -/
structure PdqI (o : Ord α) (a0 b0 : Nat) (f0 : Nat → α) (a b : Nat) (f : Nat → α) : Prop where
  ha : a0 ≤ a
  hb : b ≤ b0
  pm : Pm a0 b0 f0 f
  fin : ∀ g, Pm a b f g → o.Srt a b g → o.Srt a0 b0 g
  low : 0 < a → ∀ k, a ≤ k → k < b → o.le (f (a - 1)) (f k)
theorem PdqI.start {o : Ord α} {a b : Nat} {f : Nat → α} (low : 0 < a → ∀ k, a ≤ k → k < b → o.le (f (a - 1)) (f k)) : PdqI o a b f a b f := ⟨Nat.le_refl _, Nat.le_refl _, Pm.refl _ _ _, fun g _ h => h, low⟩
theorem PdqI.move {o : Ord α} {a0 b0 a b : Nat} {f0 f g : Nat → α} (h : PdqI o a0 b0 f0 a b f) (p : Pm a b f g) : PdqI o a0 b0 f0 a b g :=
  ⟨h.ha, h.hb, h.pm.trans (p.wide h.ha h.hb), fun e pe se => h.fin e (p.trans pe) se, fun h0 k h1 h2 => by
    obtain ⟨j, j1, j2, j3⟩ := p.inn ⟨h1, h2⟩
    rw [p.out (k := a - 1) (.inl (by omega)), j3]
    exact h.low h0 j j1 j2⟩
theorem PdqI.right {o : Ord α} {a0 b0 a b mid : Nat} {f0 f g : Nat → α} (h : PdqI o a0 b0 f0 a b f) (hm : a ≤ mid ∧ mid < b) (l1 : ∀ k, a ≤ k → k < mid → o.le (f k) (f mid)) (l2 : ∀ k, mid < k → k < b → o.le (f mid) (f k)) (p : Pm a mid f g) (s : o.Srt a mid g) :
    PdqI o a0 b0 f0 (mid + 1) b g := by
  have em : g mid = f mid := p.out (.inr (Nat.le_refl _))
  refine ⟨by have := h.ha; omega, h.hb, h.pm.trans (p.wide h.ha (by have := h.hb; omega)), fun e pe se => ?_, fun _ k h1 h2 => ?_⟩
  · have pw : Pm a b g e := pe.wide (by omega) (Nat.le_refl _)
    refine h.fin e ((p.wide (Nat.le_refl _) (by omega)).trans pw) (part_join (mid := mid) hm ?_ se ?_ ?_)
    · intro x y hx hxy hy
      rw [pe.out (.inl (by omega)), pe.out (.inl (by omega))]
      exact s x y hx hxy hy
    · intro k hk1 hk2
      rw [pe.out (.inl (by omega)), pe.out (.inl (by omega)), em]
      obtain ⟨j, j1, j2, j3⟩ := p.inn ⟨hk1, hk2⟩
      rw [j3]
      exact l1 j j1 j2
    · intro k hk1 hk2
      obtain ⟨j, j1, j2, j3⟩ := pe.inn (k := k) ⟨by omega, hk2⟩
      rw [pe.out (.inl (by omega)), em, j3, p.out (.inr (by omega))]
      exact l2 j (by omega) j2
  · rw [show mid + 1 - 1 = mid by omega, em, p.out (.inr (by omega))]
    exact l2 k (by omega) h2
theorem PdqI.left {o : Ord α} {a0 b0 a b mid : Nat} {f0 f g : Nat → α} (h : PdqI o a0 b0 f0 a b f) (hm : a ≤ mid ∧ mid < b) (l1 : ∀ k, a ≤ k → k < mid → o.le (f k) (f mid)) (l2 : ∀ k, mid < k → k < b → o.le (f mid) (f k)) (p : Pm (mid + 1) b f g) (s : o.Srt (mid + 1) b g) :
    PdqI o a0 b0 f0 a mid g := by
  have em : g mid = f mid := p.out (.inl (by omega))
  refine ⟨h.ha, by have := h.hb; omega, h.pm.trans (p.wide (by have := h.ha; omega) h.hb), fun e pe se => ?_, fun h0 k h1 h2 => ?_⟩
  · have pw : Pm a b g e := pe.wide (Nat.le_refl _) (by omega)
    refine h.fin e ((p.wide (by omega) (Nat.le_refl _)).trans pw) (part_join (mid := mid) hm se ?_ ?_ ?_)
    · intro x y hx hxy hy
      rw [pe.out (.inr (by omega)), pe.out (.inr (by omega))]
      exact s x y hx hxy hy
    · intro k hk1 hk2
      obtain ⟨j, j1, j2, j3⟩ := pe.inn (k := k) ⟨hk1, hk2⟩
      rw [pe.out (k := mid) (.inr (by omega)), em, j3, p.out (.inl (by omega))]
      exact l1 j j1 j2
    · intro k hk1 hk2
      rw [pe.out (.inr (by omega)), pe.out (.inr (by omega)), em]
      obtain ⟨j, j1, j2, j3⟩ := p.inn (k := k) ⟨by omega, hk2⟩
      rw [j3]
      exact l2 j (by omega) j2
  · rw [p.out (k := a - 1) (.inl (by omega)), p.out (k := k) (.inl (by omega))]
    exact h.low h0 k h1 (by omega)
/-- Those that equal the one ahead are done. -/
theorem PdqI.equal {o : Ord α} {a0 b0 a b mid : Nat} {f0 f : Nat → α} {v : α} (h : PdqI o a0 b0 f0 a b f) (h0 : 0 < a) (hm : a < mid ∧ mid ≤ b) (hv : o.le v (f (a - 1))) (l1 : ∀ k, a ≤ k → k < mid → o.le (f k) v) : PdqI o a0 b0 f0 mid b f := by
  have low := h.low h0
  have small : ∀ p q, a ≤ p → p < mid → a ≤ q → q < b → o.le (f p) (f q) := fun p q h1 h2 h3 h4 => o.le_trans (l1 p h1 h2) (o.le_trans hv (low q h3 h4))
  refine ⟨by have := h.ha; omega, h.hb, h.pm, fun e pe se => ?_, fun _ k h1 h2 => small (mid - 1) k (by omega) (by omega) (by omega) h2⟩
  refine h.fin e (pe.wide (by omega) (Nat.le_refl _)) (two_join (mid := mid) ?_ se ?_)
  · intro x y hx hxy hy
    rw [pe.out (.inl (by omega)), pe.out (.inl (by omega))]
    exact small x y hx (by omega) (by omega) (by omega)
  · intro x y h1 h2 h3 h4
    obtain ⟨j, j1, j2, j3⟩ := pe.inn (k := y) ⟨h3, h4⟩
    rw [pe.out (k := x) (.inl (by omega)), j3]
    exact small x j h1 h2 (by omega) j2
end Go.Lift
