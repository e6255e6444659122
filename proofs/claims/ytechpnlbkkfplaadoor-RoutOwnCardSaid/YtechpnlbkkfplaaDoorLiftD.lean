/- Steps for code that is drawn in many orders: reads, literals, appends of parts of a shared row. -/
import Derived.Test.YtechpnlbkkfplaaDoorLiftF
set_option linter.unusedVariables false
set_option linter.unusedSimpArgs false
namespace Go.Lift
section
variable {L R : List Asr} {h : Heap}

/-- A part of a row, as it is read. -/
theorem Sl.takeN {α : Type} {f : α → List Value} {sz : Nat} (hf : ∀ x, (f x).length = sz) (hsz : 0 < sz) {p : OA} {l : Nat} {xs : List α} (m : Sl sz h p l (xs.flatMap f)) {k : Nat} (hk : k ≤ xs.length) : Sl sz h p k ((xs.take k).flatMap f) := by
  rw [← flat_take hf]
  have hl := m.1
  rw [flat_length hf] at hl
  refine ⟨by rw [List.length_take, flat_length hf]; have := Nat.mul_le_mul_right sz hk; omega, ?_⟩
  cases p with
  | none => have e := m.2; simp only at e ⊢; rw [e]; simp
  | some a => exact m.2.take _
theorem Sl.dropN {α : Type} {f : α → List Value} {sz : Nat} (hf : ∀ x, (f x).length = sz) (hsz : 0 < sz) {p : OA} {l c : Nat} {xs : List α} (m : Sl sz h p l (xs.flatMap f)) (hc : l ≤ c) {k : Nat} (hk : k ≤ xs.length) : Sl sz h (slA p k c sz) (l - k) ((xs.drop k).flatMap f) := by
  have hl := m.1
  rw [flat_length hf] at hl
  have hl2 : xs.length = l := Nat.eq_of_mul_eq_mul_right hsz hl
  rw [← flat_drop hf]
  refine ⟨by rw [List.length_drop, flat_length hf, hl2, Nat.sub_mul], ?_⟩
  unfold slA
  by_cases e : c = k
  · rw [if_pos e]
    have : (xs.flatMap f).drop (k * sz) = [] := List.drop_eq_nil_of_le (by rw [flat_length hf]; exact Nat.mul_le_mul_right sz (by omega))
    rw [this]
    cases p with
    | none => rfl
    | some a => exact ⟨fun e => absurd rfl e, fun i hi => by simp at hi⟩
  · rw [if_neg e]
    cases p with
    | none => have e2 := m.2; simp only at e2; simp only [Option.map_none]; rw [e2]; simp
    | some a => exact m.2.drop _

theorem one_flat {α : Type} {f : α → List Value} (h1 : ∀ x, ∀ w ∈ f x, one w = true) (xs : List α) : ∀ w ∈ xs.flatMap f, one w = true := fun w hw => by
  obtain ⟨x, _, h⟩ := List.mem_flatMap.1 hw
  exact h1 x w h

theorem St.bd0 {t : TypeId} {sz : Nat} (S : St L h) {F : Heap → Prop} (hK : St (Ow sz (some (top h), 0, 0) [] :: L) (Lift.al h #[] t) → F (Lift.al h #[] t)) : bd (Lift.al h #[] t) F := hK ((S.al [] t).bxOw (by simp))
theorem St.bd1 {t : TypeId} (S : St L h) {cs : List Value} {F : Heap → Prop} (hK : St (Bx (top h) cs :: L) (Lift.al h (List.toArray cs) t) → F (Lift.al h (List.toArray cs) t)) : bd (Lift.al h (List.toArray cs) t) F := hK (S.al cs t)

section
variable {α : Type} {f : α → List Value} {sz : Nat} {P : Program} {t tx ty e : TypeId} {d : TypeDesc} {by' : Nat} {z : List Value} {K : KT}
/-- append, of what a row begins with. -/
theorem St.appP (hf : ∀ x, (f x).length = sz) (h1 : ∀ x, ∀ w ∈ f x, one w = true) (hsz : 0 < sz) (hby : by' ≤ 64) (T : SlT P t e sz by' z) (hz : z.length = sz) (htx : P.underlying tx = some d) (hd : ∀ k, d ≠ .int k) (S : St L h) {p : OA} {l c : Nat} {ys : List Value} [Has (Ow sz (p, l, c)) L ys R] {q : OA} {l' c' k : Nat} {xs : List α} [In (Im sz (q, l', c')) L (xs.flatMap f)]
    (hk : k ≤ xs.length) (hx : l + xs.length ≤ 1099511627776) (hK : ∀ p' c2 h', St (Ow sz (p', l + k, c2) (ys ++ (xs.take k).flatMap f) :: R) h' → K (.slice p' (l + k) c2) h') :
    SemH P (Builtin.append_ #[t, tx] ty #[.slice p l c, .slice (slA q 0 c' sz) k c']) K h := by
  rw [slA_z]
  have m := (S.isl sz (q, l', c')).takeN hf hsz hk
  have hb : (l + k) * by' ≤ 140737488355328 := Nat.le_trans (Nat.mul_le_mul (show l + k ≤ 1099511627776 by omega) hby) (by decide)
  exact (S.get (Ow sz (p, l, c))).app T hz htx hd (s := (p, l, c)) (Src.slice (n := k) (c := c') m (one_flat h1 _)) hb (by show l + k ≤ _; omega) hK
/-- .. of the rest of it. -/
theorem St.appT (hf : ∀ x, (f x).length = sz) (h1 : ∀ x, ∀ w ∈ f x, one w = true) (hsz : 0 < sz) (hby : by' ≤ 64) (T : SlT P t e sz by' z) (hz : z.length = sz) (htx : P.underlying tx = some d) (hd : ∀ k, d ≠ .int k) (S : St L h) {p : OA} {l c : Nat} {ys : List Value} [Has (Ow sz (p, l, c)) L ys R] {q : OA} {l' c' k : Nat} {xs : List α} [In (Im sz (q, l', c')) L (xs.flatMap f)]
    (hk : k ≤ xs.length) (hx : l + xs.length ≤ 1099511627776) (hK : ∀ p' c2 h', St (Ow sz (p', l + (l' - k), c2) (ys ++ (xs.drop k).flatMap f) :: R) h' → K (.slice p' (l + (l' - k)) c2) h') :
    SemH P (Builtin.append_ #[t, tx] ty #[.slice p l c, .slice (slA q k c' sz) (l' - k) (c' - k)]) K h := by
  have m0 := S.isl sz (q, l', c')
  have hl := m0.1
  rw [flat_length hf] at hl
  have hl2 : xs.length = l' := Nat.eq_of_mul_eq_mul_right hsz hl
  have m := m0.dropN hf hsz (S.ile sz (q, l', c')) hk
  have hb : (l + (l' - k)) * by' ≤ 140737488355328 := Nat.le_trans (Nat.mul_le_mul (show l + (l' - k) ≤ 1099511627776 by omega) hby) (by decide)
  exact (S.get (Ow sz (p, l, c))).app T hz htx hd (s := (p, l, c)) (Src.slice (n := l' - k) (c := c' - k) m (one_flat h1 _)) hb (by show l + (l' - k) ≤ _; omega) hK
/-- .. of all of it. -/
theorem St.appW (hf : ∀ x, (f x).length = sz) (h1 : ∀ x, ∀ w ∈ f x, one w = true) (hsz : 0 < sz) (hby : by' ≤ 64) (T : SlT P t e sz by' z) (hz : z.length = sz) (htx : P.underlying tx = some d) (hd : ∀ k, d ≠ .int k) (S : St L h) {p : OA} {l c : Nat} {ys : List Value} [Has (Ow sz (p, l, c)) L ys R] {q : OA} {l' c' : Nat} {xs : List α} [In (Im sz (q, l', c')) L (xs.flatMap f)]
    (hx : l + xs.length ≤ 1099511627776) (hK : ∀ p' c2 h', St (Ow sz (p', l + l', c2) (ys ++ xs.flatMap f) :: R) h' → K (.slice p' (l + l') c2) h') :
    SemH P (Builtin.append_ #[t, tx] ty #[.slice p l c, .slice q l' c']) K h := by
  have m0 := S.isl sz (q, l', c')
  have hl := m0.1
  rw [flat_length hf] at hl
  have hl2 : xs.length = l' := Nat.eq_of_mul_eq_mul_right hsz hl
  have hb : (l + l') * by' ≤ 140737488355328 := Nat.le_trans (Nat.mul_le_mul (show l + l' ≤ 1099511627776 by omega) hby) (by decide)
  exact (S.get (Ow sz (p, l, c))).app T hz htx hd (s := (p, l, c)) (Src.slice (n := l') (c := c') m0 (one_flat h1 _)) hb (by show l + l' ≤ _; omega) hK
/-- .. of one that stands in a box. -/
theorem St.appB (h1 : ∀ x, ∀ w ∈ f x, one w = true) (hby : by' ≤ 64) (T : SlT P t e sz by' z) (hz : z.length = sz) (htx : P.underlying tx = some d) (hd : ∀ k, d ≠ .int k) (S : St L h) {p : OA} {l c : Nat} {ys : List Value} [Has (Ow sz (p, l, c)) L ys R] {a : Addr} {x : α} {R' : List Asr} [Has (Bx a) L (f x) R']
    (hf : ∀ x, (f x).length = sz) (hx : l ≤ 1099511627776) (hK : ∀ p' c2 h', St (Ow sz (p', l + 1, c2) (ys ++ f x) :: R) h' → K (.slice p' (l + 1) c2) h') :
    SemH P (Builtin.append_ #[t, tx] ty #[.slice p l c, .slice (some a) 1 1]) K h := by
  have sa : Sl sz h (some a) 1 (f x) := ⟨by rw [hf, Nat.one_mul], (S.get (Bx a)).mem.1⟩
  have hb : (l + 1) * by' ≤ 140737488355328 := Nat.le_trans (Nat.mul_le_mul (show l + 1 ≤ 1099511627777 by omega) hby) (by decide)
  exact (S.get (Ow sz (p, l, c))).app T hz htx hd (s := (p, l, c)) (Src.slice (n := 1) (c := 1) sa (h1 x)) hb (by show l + 1 ≤ _; omega) hK
end
end
end Go.Lift
