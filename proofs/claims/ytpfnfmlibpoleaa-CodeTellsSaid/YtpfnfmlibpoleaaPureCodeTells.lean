/- The program's reply texts, hard codes and codes of errors are the document's, for any number and for each up to a thousand. -/
import Derived.Test.YtpfnfmlibpoleaaPCodeTellsx2
namespace Go.Proofs.Ytpfnfmlibpoleaa.Pure
open Go.RowKit Go.Proofs.Ytpfnfmlibpoleaa.PCodeTells Go.Proofs.YtpfnfmlibpoleaaW.PrintWords Go.Proofs.YtpfnfmlibpoleaaW.PrintLast

theorem text_same (x : Int) : code_Text.f x = waybillref16_Text.f x := rfl
theorem hard_same (x : Int) : code_Hard.f x = waybillref16_Hard.f x := rfl
theorem of_same (x : Int) : code_Of.f x = waybillref16_Code.f x := rfl

theorem ite_some {α : Type} {c : Prop} [Decidable c] {a b : Option α} (ha : ∃ r, a = some r) (hb : ∃ r, b = some r) : ∃ r, (if c then a else b) = some r := by
  split
  · exact ha
  · exact hb

theorem text_some (x : Int) : ∃ t, code_Text.f x = some t := by
  unfold code_Text.f
  repeat (refine ite_some ⟨_, rfl⟩ ?_)
  exact ⟨_, rfl⟩
theorem hard_some (x : Int) : ∃ t, code_Hard.f x = some t := by
  unfold code_Hard.f
  repeat (first | exact ⟨_, rfl⟩ | refine ite_some ?_ ?_)
theorem of_some (x : Int) : ∃ t, code_Of.f x = some t := by
  unfold code_Of.f
  repeat (first | exact ⟨_, rfl⟩ | refine ite_some ?_ ?_)

theorem l0_tells (d : Nat) : ∀ (k : Nat) (i : Int), 0 ≤ i → i ≤ 1000 → 1000 - i = d → d < k → waybilllaw23_CodeTells.l0 k i = some true := by
  induction d with
  | zero =>
    intro k i h0 h1 hd hk
    obtain ⟨k, rfl⟩ : ∃ m, k = m + 1 := ⟨k - 1, by omega⟩
    simp only [waybilllaw23_CodeTells.l0]
    rw [if_neg (by omega)]
    decide +kernel
  | succ d ih =>
    intro k i h0 h1 hd hk
    obtain ⟨k, rfl⟩ : ∃ m, k = m + 1 := ⟨k - 1, by omega⟩
    have hw : wrap64 (i + 1) = i + 1 := by unfold wrap64; omega
    have hr := ih k (i + 1) (by omega) (by omega) (by omega) (by omega)
    obtain ⟨t, ht⟩ := text_some i
    obtain ⟨b, hb⟩ := hard_some i
    obtain ⟨c, hc⟩ := of_some i
    simp only [waybilllaw23_CodeTells.l0]
    rw [if_pos (by omega), ← text_same, ht]
    simp only [Option.bind_some, if_true]
    rw [← hard_same, hb]
    simp only [Option.bind_some, bne_self_eq_false, Bool.false_eq_true, if_false]
    rw [← of_same, hc]
    simp only [Option.bind_some, if_true]
    rw [hw]
    exact hr

theorem CodeTells : waybilllaw23_CodeTells.Pure := by
  intro x e hx he
  refine ⟨1002, ?_⟩
  obtain ⟨t, ht⟩ := text_some x
  obtain ⟨b, hb⟩ := hard_some x
  obtain ⟨c, hc⟩ := of_some e
  unfold waybilllaw23_CodeTells.f
  rw [← text_same, ht]
  simp only [Option.bind_some, if_true]
  rw [← hard_same, hb]
  simp only [Option.bind_some, bne_self_eq_false, Bool.false_eq_true, if_false]
  rw [← of_same, hc]
  simp only [Option.bind_some, bne_self_eq_false]
  show waybilllaw23_CodeTells.j0 (1001 + 1) false = some true
  simp only [waybilllaw23_CodeTells.j0, Bool.false_eq_true, if_false]
  exact l0_tells 1000 1001 0 (by omega) (by omega) (by omega) (by omega)

end Go.Proofs.Ytpfnfmlibpoleaa.Pure
