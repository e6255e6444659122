/- MethForms over the heap: each method has the form that the document gives it, and no other two numbers have one. -/
import Derived.Test.YtpfnfmlibpoleaaRefSame
import Derived.Test.YtpfnfmlibpoleaaPrLaw4Methforms
set_option linter.unusedVariables false
set_option linter.unusedSimpArgs false
namespace Go.Proofs.Ytpfnfmlibpoleaa.Pr
open Go Go.Lift Go.Proofs

section
variable {K : KT} {L R : List Asr} {h : Heap}

def rowC (c : Nat) : Nat → Nat
  | 0 => 0
  | m + 1 => (if (formP ((c : Int), ((130 - (m + 1) : Nat) : Int))).isSome then 1 else 0) + rowC c m
def totC : Nat → Nat
  | 0 => 0
  | m + 1 => rowC (10 * (10 - (m + 1))) 130 + totC m
theorem totC_eq : totC 10 = 49 := by decide +kernel
theorem rowC_le (c : Nat) : ∀ m, rowC c m ≤ m
  | 0 => Nat.le_refl _
  | m + 1 => by unfold rowC; have := rowC_le c m; split <;> omega

theorem forms_row {R3 : Int → Int → Heap → Prop} {c n' : Nat} (hK : ∀ h', St L h' → waybilllaw4_MethForms.j4 K R3 n' c h') :
    ∀ (m n : Nat) (h : Heap), m ≤ 130 → n + rowC c m = n' → n ≤ 2000 → n' ≤ 2000 → St L h → waybilllaw4_MethForms.L5 K R3 (m + 1) n c ((130 - m : Nat) : Int) h
  | 0, n, h, hm, hn, hn2, hn3, S => by
    unfold waybilllaw4_MethForms.L5
    simp only [rowC, Nat.add_zero] at hn
    subst hn
    exact ifF (by simp) (hK h S)
  | m + 1, n, h, hm, hn, hn2, hn3, S => by
    unfold waybilllaw4_MethForms.L5
    refine ifT (by simp; omega) (Form.spec fun h1 k1 => ⟨_, _, rfl, ?_⟩)
    have S1 := S.kept k1
    have next : ∀ n2 : Nat, n2 + rowC c m = n' → waybilllaw4_MethForms.j6 K R3 (waybilllaw4_MethForms.L5 K R3 (m + 1)) n2 c ((130 - (m + 1) : Nat) : Int) h1 := by
      intro n2 h2
      unfold waybilllaw4_MethForms.j6
      simp only [bd]
      rw [wsucc (by omega), show 130 - (m + 1) + 1 = 130 - m by omega]
      exact forms_row hK m n2 h1 (by omega) h2 (by omega) hn3 S1
    unfold rowC at hn
    cases e : (formP ((c : Int), ((130 - (m + 1) : Nat) : Int))).isSome with
    | true =>
      refine ifT rfl ?_
      simp only [bd]
      rw [wsucc (by omega)]
      rw [e, if_pos rfl] at hn
      exact next (n + 1) (by omega)
    | false =>
      rw [e, if_neg (by decide)] at hn
      exact ifF rfl (next n (by omega))

theorem forms_all (hK : ∀ h', St L h' → waybilllaw4_MethForms.j2 K 49 h') :
    ∀ (m n : Nat) (h : Heap), m ≤ 10 → n + totC m = 49 → St L h → waybilllaw4_MethForms.L3 K (m + 1) n ((10 * (10 - m) : Nat) : Int) h
  | 0, n, h, hm, hn, S => by
    unfold waybilllaw4_MethForms.L3
    simp only [totC, Nat.add_zero] at hn
    subst hn
    exact ifF (by simp) (hK h S)
  | m + 1, n, h, hm, hn, S => by
    unfold waybilllaw4_MethForms.L3
    unfold totC at hn
    have := rowC_le (10 * (10 - (m + 1))) 130
    refine ifT (by simp; omega) ⟨131, forms_row (L := L) (n' := n + rowC (10 * (10 - (m + 1))) 130) (fun h1 S1 => ?_) 130 n h (by omega) rfl (by omega) (by omega) S⟩
    unfold waybilllaw4_MethForms.j4
    simp only [bd]
    have e : IntKind.i64.wrap (((10 * (10 - (m + 1)) : Nat) : Int) + 10) = ((10 * (10 - m) : Nat) : Int) := by rw [wrapI (by omega) (by omega)]; omega
    rw [e]
    exact forms_all hK m _ h1 (by omega) (by omega) S1

theorem forms_two (hK : ∀ h', St L h' → waybilllaw4_MethForms.j1 K h') : ∀ (m : Nat) (a b : Int) (h : Heap), m ≤ 2 → St L h → waybilllaw4_MethForms.L7 K (m + 1) a b ((2 - m : Nat) : Int) h
  | 0, a, b, h, hm, S => by
    unfold waybilllaw4_MethForms.L7
    exact ifF (by simp) (hK h S)
  | m + 1, a, b, h, hm, S => by
    unfold waybilllaw4_MethForms.L7
    refine ifT (by simp; omega) (Form.spec fun h1 k1 => ⟨_, _, rfl, refForm.spec ⟨_, _, rfl, ?_⟩⟩)
    have S1 := S.kept k1
    refine ifF' (by simp) ?_
    unfold waybilllaw4_MethForms.j8
    refine ifF (by simp) ?_
    simp only [bd]
    rw [wsucc (by omega), show 2 - (m + 1) + 1 = 2 - m by omega]
    exact forms_two hK m _ _ h1 (by omega) S1

end
theorem MethForms.law (a : Int) (ha : -9223372036854775808 ≤ a ∧ a < 9223372036854775808) (b : Int) (hb : -9223372036854775808 ≤ b ∧ b < 9223372036854775808) (h : Heap) : CallsH P F.waybilllaw4_MethForms [.int .i64 a, .int .i64 b] (fun v h' => v = .bool true ∧ Kept h h') h := by
  refine waybilllaw4_MethForms.ok ?_
  unfold waybilllaw4_MethForms.p0
  refine ⟨3, forms_two (fun h1 S1 => ?_) 2 a b h (by omega) (St.old h)⟩
  unfold waybilllaw4_MethForms.j1
  refine ⟨11, forms_all (fun h2 S2 => ?_) 10 0 h1 (by omega) (by rw [totC_eq]) S1⟩
  unfold waybilllaw4_MethForms.j2
  exact ifT rfl (awakeS S2 fun h3 S3 => ⟨_, rfl, rfl, S3.keptOld (List.mem_cons_self ..)⟩)
end Go.Proofs.Ytpfnfmlibpoleaa.Pr
