/- Each reply code that has a text is hard or soft; what is hard has a text; no other number has one; for any number. -/
import Derived.Test.YtpfnfmlibpoleaaPrCode
import Derived.Test.YtpfnfmlibpoleaaPrLaw23Codehard
import Derived.Test.YtpfnfmlibpoleaaLiftH
namespace Go.Proofs.Ytpfnfmlibpoleaa.Pr
open Go Go.Lift Go.Proofs

def hardB (x : Int) : Bool := (decide (x ≥ 501) && decide (x ≤ 506)) || x == 530 || x == 540
def softB (x : Int) : Bool := x == 200 || x == 311 || x == 312 || x == 403 || x == 404 || x == 406

theorem code_Hard.spec {K : KT} {x : Int} {h : Heap} (hK : K (.bool (hardB x)) h) : CallsH P F.code_Hard [.int .i64 x] K h := by
  refine code_Hard.ok ?_
  unfold code_Hard.p0
  unfold hardB at hK
  cases h1 : decide (x ≥ 501) <;> cases h2 : decide (x ≤ 506) <;> cases h3 : x == 530 <;> cases h4 : x == 540 <;> simp_all [bd]

theorem code_Text.spec {K : KT} {x : Int} {h : Heap} (hK : ∀ s : List UInt8, (s == []) = !(softB x || hardB x) → K (.string (mkS s)) h) : CallsH P F.code_Text [.int .i64 x] K h := by
  refine code_Text.ok ?_
  unfold code_Text.p0
  by_cases hx : x = 200 ∨ x = 311 ∨ x = 312 ∨ x = 403 ∨ x = 404 ∨ x = 406 ∨ x = 501 ∨ x = 502 ∨ x = 503 ∨ x = 504 ∨ x = 505 ∨ x = 506 ∨ x = 530 ∨ x = 540
  · rcases hx with rfl | rfl | rfl | rfl | rfl | rfl | rfl | rfl | rfl | rfl | rfl | rfl | rfl | rfl <;> simp [bd] <;> exact hK _ (by decide)
  · have hb : (softB x || hardB x) = false := by
      unfold softB hardB
      simp only [Bool.or_eq_false_iff, Bool.and_eq_false_iff, decide_eq_false_iff_not, beq_eq_false_iff_ne]
      omega
    rw [hb] at hK
    have := hK [] (by decide)
    simp only [not_or] at hx
    simp [bd, hx, this]

theorem code_Of.spec {K : KT} {x : Int} {h : Heap} (hK : K (.int .i64 (if x = 3 then 501 else if x = 4 then 502 else if x = 5 then 540 else 506)) h) : CallsH P F.code_Of [.int .i64 x] K h := by
  refine code_Of.ok ?_
  unfold code_Of.p0
  by_cases h3 : x = 3 <;> by_cases h4 : x = 4 <;> by_cases h5 : x = 5 <;> simp_all [bd]

abbrev done (h0 : Heap) : KT := fun v h' => v = .bool true ∧ Kept h0 h'

theorem hard_end (h : Heap) : waybilllaw23_CodeHard.j1 (done h) h := by
  unfold waybilllaw23_CodeHard.j1
  refine code_Text.ok ?_
  unfold code_Text.p0
  refine ⟨fun _ => ⟨_, rfl, fun _ => ?_, fun e => absurd e (by decide)⟩, fun e => absurd e (by decide)⟩
  refine code_Of.spec ⟨_, rfl, fun _ => ?_, fun e => absurd e (by decide)⟩
  refine code_Of.spec ⟨_, rfl, fun _ => ?_, fun e => absurd e (by decide)⟩
  refine code_Of.spec ⟨_, rfl, fun _ => ?_, fun e => absurd e (by decide)⟩
  exact code_Of.spec ⟨_, rfl, rfl, Kept.refl h⟩

theorem hard_j3 (h0 h : Heap) (R : Int → Int → Heap → Prop) (x i : Int) (hR : R (IntKind.i64.wrap (200 + bitsI .and .i64 x 511)) (IntKind.i64.wrap (i + 1)) h) :
    waybilllaw23_CodeHard.j3 (done h0) R x i (softB x) h := by
  have key : waybilllaw23_CodeHard.j4 (done h0) R x i (softB x) (hardB x) h := by
    unfold waybilllaw23_CodeHard.j4
    refine code_Hard.spec ⟨_, rfl, fun _ => ?_, fun e => by simp at e⟩
    refine code_Text.spec fun s hs => ⟨s, rfl, ?_, ?_⟩
    · intro e
      rw [hs, e]
      unfold waybilllaw23_CodeHard.j5
      refine ⟨fun e => by simp at e, fun _ => hR⟩
    · intro e
      rw [hs, e]
      unfold waybilllaw23_CodeHard.j5
      refine ⟨fun e => by simp at e, fun _ => hR⟩
  unfold waybilllaw23_CodeHard.j3
  generalize hs : softB x = s at key
  unfold hardB at key
  cases h1 : decide (x ≥ 501) <;> cases h2 : decide (x ≤ 506) <;> cases h3 : x == 530 <;> cases h4 : x == 540 <;> simp_all [bd]

theorem hard_loop (h0 h : Heap) : ∀ (n : Nat) (x i : Int), 0 ≤ i → i ≤ 2 → 2 - i < n → waybilllaw23_CodeHard.L2 (done h0) n x i h0
  | 0, x, i, h0, h1, h2 => by omega
  | n + 1, x, i, h0', h1, h2 => by
    unfold waybilllaw23_CodeHard.L2
    by_cases hi : i < 2
    · have hR : waybilllaw23_CodeHard.L2 (done h0) n (IntKind.i64.wrap (200 + bitsI .and .i64 x 511)) (IntKind.i64.wrap (i + 1)) h0 := by
        have hw : IntKind.i64.wrap (i + 1) = i + 1 := by
          have : i = 0 ∨ i = 1 := by omega
          rcases this with rfl | rfl <;> rfl
        rw [hw]
        exact hard_loop h0 h n _ _ (by omega) (by omega) (by omega)
      have key := hard_j3 h0 h0 _ x i hR
      unfold softB at key
      cases h1 : x == 200 <;> cases h2 : x == 311 <;> cases h3 : x == 312 <;> cases h4 : x == 403 <;> cases h5 : x == 404 <;> cases h6 : x == 406 <;> simp_all [bd]
    · refine ⟨fun e => absurd (of_decide_eq_true e) hi, fun _ => hard_end h0⟩

theorem CodeHard.law (x : Int) (h : Heap) : CallsH P F.waybilllaw23_CodeHard [.int .i64 x] (done h) h := by
  refine waybilllaw23_CodeHard.ok ?_
  unfold waybilllaw23_CodeHard.p0
  exact ⟨3, hard_loop h h 3 x 0 (by omega) (by omega) (by omega)⟩
end Go.Proofs.Ytpfnfmlibpoleaa.Pr
