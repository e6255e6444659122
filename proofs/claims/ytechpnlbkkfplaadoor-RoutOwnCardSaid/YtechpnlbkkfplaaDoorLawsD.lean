/- Rows of those of the first n that a flag tells. -/
import Derived.Test.YtechpnlbkkfplaaDoorLawsC
set_option linter.unusedVariables false
set_option linter.unusedSimpArgs false
namespace Go.Lift
section
variable {α β : Type}
/-- f of those of the first n of which p holds. -/
def rF (n : Nat) (p : Nat → Bool) (f : Nat → α) : List α := ((List.range n).filter p).map f
theorem rF_succ (n : Nat) (p : Nat → Bool) (f : Nat → α) : rF (n + 1) p f = rF n p f ++ (if p n then [f n] else []) := by
  unfold rF
  rw [List.range_succ, List.filter_append, List.map_append]
  congr 1
  by_cases h : p n = true
  · rw [if_pos h, List.filter_cons_of_pos h]; rfl
  · rw [if_neg h, List.filter_cons_of_neg h]; rfl
theorem rF_filter (n : Nat) (p : Nat → Bool) (f : Nat → α) (r : α → Bool) : (rF n p f).filter r = rF n (fun j => p j && r (f j)) f := by
  induction n with
  | zero => rfl
  | succ n ih =>
    rw [rF_succ, rF_succ, List.filter_append, ih]
    congr 1
    cases hp : p n <;> simp
    cases hr : r (f n) <;> simp [hr]
theorem rF_map (n : Nat) (p : Nat → Bool) (f : Nat → α) (g : α → β) : (rF n p f).map g = rF n p fun j => g (f j) := by unfold rF; rw [List.map_map]; rfl
theorem rF_congr {n : Nat} {p q : Nat → Bool} {f g : Nat → α} (h : ∀ j, j < n → p j = q j) (h2 : ∀ j, j < n → p j = true → f j = g j) : rF n p f = rF n q g := by
  unfold rF
  rw [List.filter_congr fun j hj => h j (List.mem_range.1 hj)]
  refine List.map_congr_left fun j hj => ?_
  obtain ⟨h3, h4⟩ := List.mem_filter.1 hj
  exact h2 j (List.mem_range.1 h3) (by rw [h j (List.mem_range.1 h3)]; exact h4)
theorem rF_len (n : Nat) (p : Nat → Bool) (f : Nat → α) : (rF n p f).length = cnt n p := by unfold rF cnt; rw [List.length_map]
theorem rF_mem {n : Nat} {p : Nat → Bool} {f : Nat → α} {x : α} : x ∈ rF n p f ↔ ∃ j, j < n ∧ p j = true ∧ x = f j := by
  unfold rF
  simp only [List.mem_map, List.mem_filter, List.mem_range]
  exact ⟨fun ⟨j, ⟨a, b⟩, c⟩ => ⟨j, a, b, c.symm⟩, fun ⟨j, a, b, c⟩ => ⟨j, ⟨a, b⟩, c.symm⟩⟩
theorem cnt_mono {m n : Nat} (h : m ≤ n) (p : Nat → Bool) : cnt m p ≤ cnt n p := by
  induction n with
  | zero => have : m = 0 := by omega
            subst this; exact Nat.le_refl _
  | succ n ih =>
    by_cases e : m = n + 1
    · subst e; exact Nat.le_refl _
    · have := ih (by omega); have := cnt_succ n p; omega
theorem rF_get {n i : Nat} (h : i < n) {p : Nat → Bool} (hp : p i = true) (f : Nat → α) : (rF n p f)[cnt i p]? = some (f i) := by
  induction n with
  | zero => omega
  | succ n ih =>
    rw [rF_succ]
    by_cases e : i = n
    · subst e
      rw [List.getElem?_append_right (by rw [rF_len]; exact Nat.le_refl _), rF_len, Nat.sub_self, if_pos hp]; rfl
    · have h1 := ih (by omega)
      have h2 := (List.getElem?_eq_some_iff.1 h1).1
      rw [List.getElem?_append_left h2, h1]
theorem rF_up {ν : Type} {n : Nat} {p : Nat → Bool} {g : Nat → Int} {f : Nat → ν} (m : Mono n g) : Up (rF n p fun j => (g j, f j)) := by
  unfold rF Up
  rw [List.pairwise_map]
  have : ((List.range n).filter p).Pairwise fun a b => a < b := List.pairwise_lt_range.sublist List.filter_sublist
  refine this.imp_of_mem fun {a b} ha hb hab => m a b hab (List.mem_range.1 (List.mem_filter.1 hb).1)
theorem rF_all (n : Nat) (f : Nat → α) : rF n (fun _ => true) f = rowF n f := by
  unfold rF rowF
  rw [List.filter_eq_self.2 fun _ _ => rfl]
end
end Go.Lift
