/- Small lemmas for the laws: rows of flags, counts, numbers. -/
import Derived.Test.YtechpnlbkkfplaaDoorLiftW
import Derived.Test.YtechpnlbkkfplaaDoorLiftSt
import Derived.Test.YtechpnlbkkfplaaDoorBitsP
set_option linter.unusedVariables false
set_option linter.unusedSimpArgs false
namespace Go.Lift

theorem wrapU {n : Nat} (h : n < 18446744073709551616) : IntKind.u64.wrap (n : Int) = n := by rw [IntKind.wrap_u64]; omega
theorem wrapS {a : Int} {n : Nat} (h : a = n) (hn : n < 9223372036854775808) : IntKind.i64.wrap a = (n : Int) := by rw [h, wrapI (by omega) (by omega)]
theorem tmodN {a : Int} {n : Nat} (ha : 0 ≤ a) (hn : 0 < n) : ∃ j : Nat, j < n ∧ Int.tmod a n = j := by
  refine ⟨(Int.tmod a n).toNat, ?_, ?_⟩
  · have h1 := Int.tmod_lt_of_pos a (show (0 : Int) < n by omega)
    have h2 := Int.tmod_nonneg (n : Int) ha
    omega
  · have h2 := Int.tmod_nonneg (n : Int) ha
    omega
/-- Flags. -/
abbrev flags (n : Nat) (w : Nat → Bool) : List Value := rowF n fun j => .bool (w j)
theorem flags_set {n k : Nat} (w : Nat → Bool) (h : k < n) (b : Bool) : (flags n w).set k (.bool b) = flags n fun j => if j = k then b else w j := by
  unfold flags
  rw [rowF_set _ h]
  exact rowF_congr fun j hj => by by_cases e : j = k <;> simp [e]
theorem flags_new (n : Nat) : flags n (fun _ => false) = List.replicate n (.bool false) := rowF_const n _
theorem flags_congr {n : Nat} {w w' : Nat → Bool} (h : ∀ j, j < n → w j = w' j) : flags n w = flags n w' := rowF_congr fun j hj => by rw [h j hj]
/-- How many of the first n. -/
def cnt (n : Nat) (p : Nat → Bool) : Nat := ((List.range n).filter p).length
theorem cnt_zero (p : Nat → Bool) : cnt 0 p = 0 := rfl
theorem cnt_succ (n : Nat) (p : Nat → Bool) : cnt (n + 1) p = cnt n p + (if p n then 1 else 0) := by
  unfold cnt
  rw [List.range_succ, List.filter_append, List.length_append]
  cases h : p n <;> simp [h]
theorem cnt_le (n : Nat) (p : Nat → Bool) : cnt n p ≤ n := by
  have := List.length_filter_le p (List.range n)
  rw [List.length_range] at this
  exact this
theorem cnt_congr {n : Nat} {p q : Nat → Bool} (h : ∀ j, j < n → p j = q j) : cnt n p = cnt n q := by
  unfold cnt
  congr 1
  exact List.filter_congr fun j hj => h j (List.mem_range.1 hj)
theorem cnt_not (n : Nat) (p : Nat → Bool) : cnt n p + cnt n (fun j => !p j) = n := by
  have := filter_len p (List.range n)
  rw [List.length_range] at this
  exact this
theorem rowF_filter {α : Type} (n : Nat) (f : Nat → α) (p : α → Bool) : ((rowF n f).filter p).length = cnt n fun j => p (f j) := by
  unfold rowF cnt
  rw [List.filter_map, List.length_map]; rfl
end Go.Lift
