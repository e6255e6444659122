-- PRINTED BY print.sh 35421559b90ae4d0a3588c463048766b98c2df88dd9212a6774a882060cdf62d: not written by this session
import Derived.Test.YtpfnfmlibpoleaaPCodeTellsx0
namespace Go.Proofs.Ytpfnfmlibpoleaa.PCodeTells
open Go.RowKit Go.Proofs.YtpfnfmlibpoleaaW.PrintWords Go.Proofs.YtpfnfmlibpoleaaW.PrintLast Go.Proofs.YtpfnfmlibpoleaaW.PrintMore
attribute [local go_sem] max2_int min2_int max_two min_two max_three min_three max_four min_four   -- for this text's walks alone
set_option linter.unusedVariables false
set_option linter.unusedSimpArgs false

/-! ### code_Hard: function 13 -/
def code_Hard.f (a0 : Int) : Option (Bool) := if a0 ≥ 501 then (if a0 ≤ 506 then (some true) else (if a0 = 530 then (some true) else (some (a0 == 540)))) else (if a0 = 530 then (some true) else (some (a0 == 540)))
set_option maxHeartbeats 8000000 in
set_option maxRecDepth 100000 in
theorem code_Hard.calls (a0 : Int) (r : Bool) (w : World) (h : code_Hard.f a0 = some r) :
    Calls Try.prog 13 #[.int .i64 a0] w fun e w' => e = .returned (.bool r) ∧ Drawn0 w w' := by
  have H : (if a0 ≥ 501 then (if a0 ≤ 506 then (some true) else (if a0 = 530 then (some true) else (some (a0 == 540)))) else (if a0 = 530 then (some true) else (some (a0 == 540)))) = some r := h
  clear h
  by_cases c2 : a0 ≥ 501
  · rw [if_pos c2] at H
    have c2b0 : decide (501 ≤ a0) = true := decide_eq_true c2
    clear c2
    by_cases c3 : a0 ≤ 506
    · rw [if_pos c3] at H
      have c3b0 : decide (a0 ≤ 506) = true := decide_eq_true c3
      clear c3
      obtain rfl := Option.some.inj H
      go_enter Try.func13, Try.ntmps13
      go_wp2
      go_ret
      exact ⟨by first | rfl | (simp; done) | (simp [*]; done), by repeat (first | exact Drawn0.refl _ | apply Drawn0.step)⟩
    · rw [if_neg c3] at H
      have c3b0 : decide (a0 ≤ 506) = false := decide_eq_false c3
      clear c3
      by_cases c4 : a0 = 530
      · rw [if_pos c4] at H
        have c4b0 : (a0 == 530) = true := beq_iff_eq.mpr c4
        have c4b1 : (a0 != 530) = false := bne_eq_false_iff_eq.mpr c4
        clear c4
        obtain rfl := Option.some.inj H
        go_enter Try.func13, Try.ntmps13
        go_wp2
        go_ret
        exact ⟨by first | rfl | (simp; done) | (simp [*]; done), by repeat (first | exact Drawn0.refl _ | apply Drawn0.step)⟩
      · rw [if_neg c4] at H
        have c4b0 : (a0 == 530) = false := beq_eq_false_iff_ne.mpr c4
        have c4b1 : (a0 != 530) = true := bne_iff_ne.mpr c4
        obtain rfl := Option.some.inj H
        go_enter Try.func13, Try.ntmps13
        go_wp2
        go_ret
        exact ⟨by first | rfl | (simp; done) | (simp [*]; done), by repeat (first | exact Drawn0.refl _ | apply Drawn0.step)⟩
  · rw [if_neg c2] at H
    have c2b0 : decide (501 ≤ a0) = false := decide_eq_false c2
    clear c2
    by_cases c5 : a0 = 530
    · rw [if_pos c5] at H
      have c5b0 : (a0 == 530) = true := beq_iff_eq.mpr c5
      have c5b1 : (a0 != 530) = false := bne_eq_false_iff_eq.mpr c5
      clear c5
      obtain rfl := Option.some.inj H
      go_enter Try.func13, Try.ntmps13
      go_wp2
      go_ret
      exact ⟨by first | rfl | (simp; done) | (simp [*]; done), by repeat (first | exact Drawn0.refl _ | apply Drawn0.step)⟩
    · rw [if_neg c5] at H
      have c5b0 : (a0 == 530) = false := beq_eq_false_iff_ne.mpr c5
      have c5b1 : (a0 != 530) = true := bne_iff_ne.mpr c5
      obtain rfl := Option.some.inj H
      go_enter Try.func13, Try.ntmps13
      go_wp2
      go_ret
      exact ⟨by first | rfl | (simp; done) | (simp [*]; done), by repeat (first | exact Drawn0.refl _ | apply Drawn0.step)⟩

/-! ### code_Text: function 14 -/
def code_Text.f (a0 : Int) : Option (ByteArray) := if a0 = 200 then (some (⟨#[79, 75]⟩ : ByteArray)) else (if a0 = 311 then (some (⟨#[67, 79, 78, 84, 69, 78, 84, 95, 84, 79, 79, 95, 76, 65, 82, 71, 69]⟩ : ByteArray)) else (if a0 = 312 then (some (⟨#[78, 79, 95, 82, 79, 85, 84, 69]⟩ : ByteArray)) else (if a0 = 403 then (some (⟨#[65, 67, 67, 69, 83, 83, 95, 82, 69, 70, 85, 83, 69, 68]⟩ : ByteArray)) else (if a0 = 404 then (some (⟨#[78, 79, 84, 95, 70, 79, 85, 78, 68]⟩ : ByteArray)) else (if a0 = 406 then (some (⟨#[80, 82, 69, 67, 79, 78, 68, 73, 84, 73, 79, 78, 95, 70, 65, 73, 76, 69, 68]⟩ : ByteArray)) else (if a0 = 501 then (some (⟨#[70, 82, 65, 77, 69, 95, 69, 82, 82, 79, 82]⟩ : ByteArray)) else (if a0 = 502 then (some (⟨#[83, 89, 78, 84, 65, 88, 95, 69, 82, 82, 79, 82]⟩ : ByteArray)) else (if a0 = 503 then (some (⟨#[67, 79, 77, 77, 65, 78, 68, 95, 73, 78, 86, 65, 76, 73, 68]⟩ : ByteArray)) else (if a0 = 504 then (some (⟨#[67, 72, 65, 78, 78, 69, 76, 95, 69, 82, 82, 79, 82]⟩ : ByteArray)) else (if a0 = 505 then (some (⟨#[85, 78, 69, 88, 80, 69, 67, 84, 69, 68, 95, 70, 82, 65, 77, 69]⟩ : ByteArray)) else (if a0 = 506 then (some (⟨#[82, 69, 83, 79, 85, 82, 67, 69, 95, 69, 82, 82, 79, 82]⟩ : ByteArray)) else (if a0 = 530 then (some (⟨#[78, 79, 84, 95, 65, 76, 76, 79, 87, 69, 68]⟩ : ByteArray)) else (if a0 = 540 then (some (⟨#[78, 79, 84, 95, 73, 77, 80, 76, 69, 77, 69, 78, 84, 69, 68]⟩ : ByteArray)) else (some (⟨#[]⟩ : ByteArray)))))))))))))))
set_option maxHeartbeats 8000000 in
set_option maxRecDepth 100000 in
theorem code_Text.calls (a0 : Int) (r : ByteArray) (w : World) (h : code_Text.f a0 = some r) :
    Calls Try.prog 14 #[.int .i64 a0] w fun e w' => e = .returned (.string r) ∧ Drawn0 w w' := by
  have H : (if a0 = 200 then (some (⟨#[79, 75]⟩ : ByteArray)) else (if a0 = 311 then (some (⟨#[67, 79, 78, 84, 69, 78, 84, 95, 84, 79, 79, 95, 76, 65, 82, 71, 69]⟩ : ByteArray)) else (if a0 = 312 then (some (⟨#[78, 79, 95, 82, 79, 85, 84, 69]⟩ : ByteArray)) else (if a0 = 403 then (some (⟨#[65, 67, 67, 69, 83, 83, 95, 82, 69, 70, 85, 83, 69, 68]⟩ : ByteArray)) else (if a0 = 404 then (some (⟨#[78, 79, 84, 95, 70, 79, 85, 78, 68]⟩ : ByteArray)) else (if a0 = 406 then (some (⟨#[80, 82, 69, 67, 79, 78, 68, 73, 84, 73, 79, 78, 95, 70, 65, 73, 76, 69, 68]⟩ : ByteArray)) else (if a0 = 501 then (some (⟨#[70, 82, 65, 77, 69, 95, 69, 82, 82, 79, 82]⟩ : ByteArray)) else (if a0 = 502 then (some (⟨#[83, 89, 78, 84, 65, 88, 95, 69, 82, 82, 79, 82]⟩ : ByteArray)) else (if a0 = 503 then (some (⟨#[67, 79, 77, 77, 65, 78, 68, 95, 73, 78, 86, 65, 76, 73, 68]⟩ : ByteArray)) else (if a0 = 504 then (some (⟨#[67, 72, 65, 78, 78, 69, 76, 95, 69, 82, 82, 79, 82]⟩ : ByteArray)) else (if a0 = 505 then (some (⟨#[85, 78, 69, 88, 80, 69, 67, 84, 69, 68, 95, 70, 82, 65, 77, 69]⟩ : ByteArray)) else (if a0 = 506 then (some (⟨#[82, 69, 83, 79, 85, 82, 67, 69, 95, 69, 82, 82, 79, 82]⟩ : ByteArray)) else (if a0 = 530 then (some (⟨#[78, 79, 84, 95, 65, 76, 76, 79, 87, 69, 68]⟩ : ByteArray)) else (if a0 = 540 then (some (⟨#[78, 79, 84, 95, 73, 77, 80, 76, 69, 77, 69, 78, 84, 69, 68]⟩ : ByteArray)) else (some (⟨#[]⟩ : ByteArray)))))))))))))))) = some r := h
  clear h
  by_cases c2 : a0 = 200
  · rw [if_pos c2] at H
    have c2b0 : (a0 == 200) = true := beq_iff_eq.mpr c2
    have c2b1 : (a0 != 200) = false := bne_eq_false_iff_eq.mpr c2
    clear c2
    obtain rfl := Option.some.inj H
    go_enter Try.func14, Try.ntmps14
    go_wp2
    go_ret
    exact ⟨by first | rfl | (simp; done) | (simp [*]; done), by repeat (first | exact Drawn0.refl _ | apply Drawn0.step)⟩
  · rw [if_neg c2] at H
    have c2b0 : (a0 == 200) = false := beq_eq_false_iff_ne.mpr c2
    have c2b1 : (a0 != 200) = true := bne_iff_ne.mpr c2
    by_cases c3 : a0 = 311
    · rw [if_pos c3] at H
      have c3b0 : (a0 == 311) = true := beq_iff_eq.mpr c3
      have c3b1 : (a0 != 311) = false := bne_eq_false_iff_eq.mpr c3
      clear c3
      obtain rfl := Option.some.inj H
      go_enter Try.func14, Try.ntmps14
      go_wp2
      go_ret
      exact ⟨by first | rfl | (simp; done) | (simp [*]; done), by repeat (first | exact Drawn0.refl _ | apply Drawn0.step)⟩
    · rw [if_neg c3] at H
      have c3b0 : (a0 == 311) = false := beq_eq_false_iff_ne.mpr c3
      have c3b1 : (a0 != 311) = true := bne_iff_ne.mpr c3
      by_cases c4 : a0 = 312
      · rw [if_pos c4] at H
        have c4b0 : (a0 == 312) = true := beq_iff_eq.mpr c4
        have c4b1 : (a0 != 312) = false := bne_eq_false_iff_eq.mpr c4
        clear c4
        obtain rfl := Option.some.inj H
        go_enter Try.func14, Try.ntmps14
        go_wp2
        go_ret
        exact ⟨by first | rfl | (simp; done) | (simp [*]; done), by repeat (first | exact Drawn0.refl _ | apply Drawn0.step)⟩
      · rw [if_neg c4] at H
        have c4b0 : (a0 == 312) = false := beq_eq_false_iff_ne.mpr c4
        have c4b1 : (a0 != 312) = true := bne_iff_ne.mpr c4
        by_cases c5 : a0 = 403
        · rw [if_pos c5] at H
          have c5b0 : (a0 == 403) = true := beq_iff_eq.mpr c5
          have c5b1 : (a0 != 403) = false := bne_eq_false_iff_eq.mpr c5
          clear c5
          obtain rfl := Option.some.inj H
          go_enter Try.func14, Try.ntmps14
          go_wp2
          go_ret
          exact ⟨by first | rfl | (simp; done) | (simp [*]; done), by repeat (first | exact Drawn0.refl _ | apply Drawn0.step)⟩
        · rw [if_neg c5] at H
          have c5b0 : (a0 == 403) = false := beq_eq_false_iff_ne.mpr c5
          have c5b1 : (a0 != 403) = true := bne_iff_ne.mpr c5
          by_cases c6 : a0 = 404
          · rw [if_pos c6] at H
            have c6b0 : (a0 == 404) = true := beq_iff_eq.mpr c6
            have c6b1 : (a0 != 404) = false := bne_eq_false_iff_eq.mpr c6
            clear c6
            obtain rfl := Option.some.inj H
            go_enter Try.func14, Try.ntmps14
            go_wp2
            go_ret
            exact ⟨by first | rfl | (simp; done) | (simp [*]; done), by repeat (first | exact Drawn0.refl _ | apply Drawn0.step)⟩
          · rw [if_neg c6] at H
            have c6b0 : (a0 == 404) = false := beq_eq_false_iff_ne.mpr c6
            have c6b1 : (a0 != 404) = true := bne_iff_ne.mpr c6
            by_cases c7 : a0 = 406
            · rw [if_pos c7] at H
              have c7b0 : (a0 == 406) = true := beq_iff_eq.mpr c7
              have c7b1 : (a0 != 406) = false := bne_eq_false_iff_eq.mpr c7
              clear c7
              obtain rfl := Option.some.inj H
              go_enter Try.func14, Try.ntmps14
              go_wp2
              go_ret
              exact ⟨by first | rfl | (simp; done) | (simp [*]; done), by repeat (first | exact Drawn0.refl _ | apply Drawn0.step)⟩
            · rw [if_neg c7] at H
              have c7b0 : (a0 == 406) = false := beq_eq_false_iff_ne.mpr c7
              have c7b1 : (a0 != 406) = true := bne_iff_ne.mpr c7
              by_cases c8 : a0 = 501
              · rw [if_pos c8] at H
                have c8b0 : (a0 == 501) = true := beq_iff_eq.mpr c8
                have c8b1 : (a0 != 501) = false := bne_eq_false_iff_eq.mpr c8
                clear c8
                obtain rfl := Option.some.inj H
                go_enter Try.func14, Try.ntmps14
                go_wp2
                go_ret
                exact ⟨by first | rfl | (simp; done) | (simp [*]; done), by repeat (first | exact Drawn0.refl _ | apply Drawn0.step)⟩
              · rw [if_neg c8] at H
                have c8b0 : (a0 == 501) = false := beq_eq_false_iff_ne.mpr c8
                have c8b1 : (a0 != 501) = true := bne_iff_ne.mpr c8
                by_cases c9 : a0 = 502
                · rw [if_pos c9] at H
                  have c9b0 : (a0 == 502) = true := beq_iff_eq.mpr c9
                  have c9b1 : (a0 != 502) = false := bne_eq_false_iff_eq.mpr c9
                  clear c9
                  obtain rfl := Option.some.inj H
                  go_enter Try.func14, Try.ntmps14
                  go_wp2
                  go_ret
                  exact ⟨by first | rfl | (simp; done) | (simp [*]; done), by repeat (first | exact Drawn0.refl _ | apply Drawn0.step)⟩
                · rw [if_neg c9] at H
                  have c9b0 : (a0 == 502) = false := beq_eq_false_iff_ne.mpr c9
                  have c9b1 : (a0 != 502) = true := bne_iff_ne.mpr c9
                  by_cases c10 : a0 = 503
                  · rw [if_pos c10] at H
                    have c10b0 : (a0 == 503) = true := beq_iff_eq.mpr c10
                    have c10b1 : (a0 != 503) = false := bne_eq_false_iff_eq.mpr c10
                    clear c10
                    obtain rfl := Option.some.inj H
                    go_enter Try.func14, Try.ntmps14
                    go_wp2
                    go_ret
                    exact ⟨by first | rfl | (simp; done) | (simp [*]; done), by repeat (first | exact Drawn0.refl _ | apply Drawn0.step)⟩
                  · rw [if_neg c10] at H
                    have c10b0 : (a0 == 503) = false := beq_eq_false_iff_ne.mpr c10
                    have c10b1 : (a0 != 503) = true := bne_iff_ne.mpr c10
                    by_cases c11 : a0 = 504
                    · rw [if_pos c11] at H
                      have c11b0 : (a0 == 504) = true := beq_iff_eq.mpr c11
                      have c11b1 : (a0 != 504) = false := bne_eq_false_iff_eq.mpr c11
                      clear c11
                      obtain rfl := Option.some.inj H
                      go_enter Try.func14, Try.ntmps14
                      go_wp2
                      go_ret
                      exact ⟨by first | rfl | (simp; done) | (simp [*]; done), by repeat (first | exact Drawn0.refl _ | apply Drawn0.step)⟩
                    · rw [if_neg c11] at H
                      have c11b0 : (a0 == 504) = false := beq_eq_false_iff_ne.mpr c11
                      have c11b1 : (a0 != 504) = true := bne_iff_ne.mpr c11
                      by_cases c12 : a0 = 505
                      · rw [if_pos c12] at H
                        have c12b0 : (a0 == 505) = true := beq_iff_eq.mpr c12
                        have c12b1 : (a0 != 505) = false := bne_eq_false_iff_eq.mpr c12
                        clear c12
                        obtain rfl := Option.some.inj H
                        go_enter Try.func14, Try.ntmps14
                        go_wp2
                        go_ret
                        exact ⟨by first | rfl | (simp; done) | (simp [*]; done), by repeat (first | exact Drawn0.refl _ | apply Drawn0.step)⟩
                      · rw [if_neg c12] at H
                        have c12b0 : (a0 == 505) = false := beq_eq_false_iff_ne.mpr c12
                        have c12b1 : (a0 != 505) = true := bne_iff_ne.mpr c12
                        by_cases c13 : a0 = 506
                        · rw [if_pos c13] at H
                          have c13b0 : (a0 == 506) = true := beq_iff_eq.mpr c13
                          have c13b1 : (a0 != 506) = false := bne_eq_false_iff_eq.mpr c13
                          clear c13
                          obtain rfl := Option.some.inj H
                          go_enter Try.func14, Try.ntmps14
                          go_wp2
                          go_ret
                          exact ⟨by first | rfl | (simp; done) | (simp [*]; done), by repeat (first | exact Drawn0.refl _ | apply Drawn0.step)⟩
                        · rw [if_neg c13] at H
                          have c13b0 : (a0 == 506) = false := beq_eq_false_iff_ne.mpr c13
                          have c13b1 : (a0 != 506) = true := bne_iff_ne.mpr c13
                          by_cases c14 : a0 = 530
                          · rw [if_pos c14] at H
                            have c14b0 : (a0 == 530) = true := beq_iff_eq.mpr c14
                            have c14b1 : (a0 != 530) = false := bne_eq_false_iff_eq.mpr c14
                            clear c14
                            obtain rfl := Option.some.inj H
                            go_enter Try.func14, Try.ntmps14
                            go_wp2
                            go_ret
                            exact ⟨by first | rfl | (simp; done) | (simp [*]; done), by repeat (first | exact Drawn0.refl _ | apply Drawn0.step)⟩
                          · rw [if_neg c14] at H
                            have c14b0 : (a0 == 530) = false := beq_eq_false_iff_ne.mpr c14
                            have c14b1 : (a0 != 530) = true := bne_iff_ne.mpr c14
                            by_cases c15 : a0 = 540
                            · rw [if_pos c15] at H
                              have c15b0 : (a0 == 540) = true := beq_iff_eq.mpr c15
                              have c15b1 : (a0 != 540) = false := bne_eq_false_iff_eq.mpr c15
                              clear c15
                              obtain rfl := Option.some.inj H
                              go_enter Try.func14, Try.ntmps14
                              go_wp2
                              go_ret
                              exact ⟨by first | rfl | (simp; done) | (simp [*]; done), by repeat (first | exact Drawn0.refl _ | apply Drawn0.step)⟩
                            · rw [if_neg c15] at H
                              have c15b0 : (a0 == 540) = false := beq_eq_false_iff_ne.mpr c15
                              have c15b1 : (a0 != 540) = true := bne_iff_ne.mpr c15
                              obtain rfl := Option.some.inj H
                              go_enter Try.func14, Try.ntmps14
                              go_wp2
                              go_ret
                              exact ⟨by first | rfl | (simp; done) | (simp [*]; done), by repeat (first | exact Drawn0.refl _ | apply Drawn0.step)⟩

/-! ### code_Of: function 15 -/
def code_Of.f (a0 : Int) : Option (Int) := if a0 = 3 then (some 501) else (if a0 = 4 then (some 502) else (if a0 = 5 then (some 540) else (some 506)))
set_option maxHeartbeats 8000000 in
set_option maxRecDepth 100000 in
theorem code_Of.calls (a0 : Int) (r : Int) (w : World) (h : code_Of.f a0 = some r) :
    Calls Try.prog 15 #[.int .i64 a0] w fun e w' => e = .returned (.int .i64 r) ∧ Drawn0 w w' := by
  have H : (if a0 = 3 then (some 501) else (if a0 = 4 then (some 502) else (if a0 = 5 then (some 540) else (some 506)))) = some r := h
  clear h
  by_cases c2 : a0 = 3
  · rw [if_pos c2] at H
    have c2b0 : (a0 == 3) = true := beq_iff_eq.mpr c2
    have c2b1 : (a0 != 3) = false := bne_eq_false_iff_eq.mpr c2
    clear c2
    obtain rfl := Option.some.inj H
    go_enter Try.func15, Try.ntmps15
    go_wp2
    go_ret
    exact ⟨by first | rfl | (simp; done) | (simp [*]; done), by repeat (first | exact Drawn0.refl _ | apply Drawn0.step)⟩
  · rw [if_neg c2] at H
    have c2b0 : (a0 == 3) = false := beq_eq_false_iff_ne.mpr c2
    have c2b1 : (a0 != 3) = true := bne_iff_ne.mpr c2
    by_cases c3 : a0 = 4
    · rw [if_pos c3] at H
      have c3b0 : (a0 == 4) = true := beq_iff_eq.mpr c3
      have c3b1 : (a0 != 4) = false := bne_eq_false_iff_eq.mpr c3
      clear c3
      obtain rfl := Option.some.inj H
      go_enter Try.func15, Try.ntmps15
      go_wp2
      go_ret
      exact ⟨by first | rfl | (simp; done) | (simp [*]; done), by repeat (first | exact Drawn0.refl _ | apply Drawn0.step)⟩
    · rw [if_neg c3] at H
      have c3b0 : (a0 == 4) = false := beq_eq_false_iff_ne.mpr c3
      have c3b1 : (a0 != 4) = true := bne_iff_ne.mpr c3
      by_cases c4 : a0 = 5
      · rw [if_pos c4] at H
        have c4b0 : (a0 == 5) = true := beq_iff_eq.mpr c4
        have c4b1 : (a0 != 5) = false := bne_eq_false_iff_eq.mpr c4
        clear c4
        obtain rfl := Option.some.inj H
        go_enter Try.func15, Try.ntmps15
        go_wp2
        go_ret
        exact ⟨by first | rfl | (simp; done) | (simp [*]; done), by repeat (first | exact Drawn0.refl _ | apply Drawn0.step)⟩
      · rw [if_neg c4] at H
        have c4b0 : (a0 == 5) = false := beq_eq_false_iff_ne.mpr c4
        have c4b1 : (a0 != 5) = true := bne_iff_ne.mpr c4
        obtain rfl := Option.some.inj H
        go_enter Try.func15, Try.ntmps15
        go_wp2
        go_ret
        exact ⟨by first | rfl | (simp; done) | (simp [*]; done), by repeat (first | exact Drawn0.refl _ | apply Drawn0.step)⟩

/-! ### waybillref16_Text: function 16 -/
def waybillref16_Text.f (a0 : Int) : Option (ByteArray) := if a0 = 200 then (some (⟨#[79, 75]⟩ : ByteArray)) else (if a0 = 311 then (some (⟨#[67, 79, 78, 84, 69, 78, 84, 95, 84, 79, 79, 95, 76, 65, 82, 71, 69]⟩ : ByteArray)) else (if a0 = 312 then (some (⟨#[78, 79, 95, 82, 79, 85, 84, 69]⟩ : ByteArray)) else (if a0 = 403 then (some (⟨#[65, 67, 67, 69, 83, 83, 95, 82, 69, 70, 85, 83, 69, 68]⟩ : ByteArray)) else (if a0 = 404 then (some (⟨#[78, 79, 84, 95, 70, 79, 85, 78, 68]⟩ : ByteArray)) else (if a0 = 406 then (some (⟨#[80, 82, 69, 67, 79, 78, 68, 73, 84, 73, 79, 78, 95, 70, 65, 73, 76, 69, 68]⟩ : ByteArray)) else (if a0 = 501 then (some (⟨#[70, 82, 65, 77, 69, 95, 69, 82, 82, 79, 82]⟩ : ByteArray)) else (if a0 = 502 then (some (⟨#[83, 89, 78, 84, 65, 88, 95, 69, 82, 82, 79, 82]⟩ : ByteArray)) else (if a0 = 503 then (some (⟨#[67, 79, 77, 77, 65, 78, 68, 95, 73, 78, 86, 65, 76, 73, 68]⟩ : ByteArray)) else (if a0 = 504 then (some (⟨#[67, 72, 65, 78, 78, 69, 76, 95, 69, 82, 82, 79, 82]⟩ : ByteArray)) else (if a0 = 505 then (some (⟨#[85, 78, 69, 88, 80, 69, 67, 84, 69, 68, 95, 70, 82, 65, 77, 69]⟩ : ByteArray)) else (if a0 = 506 then (some (⟨#[82, 69, 83, 79, 85, 82, 67, 69, 95, 69, 82, 82, 79, 82]⟩ : ByteArray)) else (if a0 = 530 then (some (⟨#[78, 79, 84, 95, 65, 76, 76, 79, 87, 69, 68]⟩ : ByteArray)) else (if a0 = 540 then (some (⟨#[78, 79, 84, 95, 73, 77, 80, 76, 69, 77, 69, 78, 84, 69, 68]⟩ : ByteArray)) else (some (⟨#[]⟩ : ByteArray)))))))))))))))
set_option maxHeartbeats 8000000 in
set_option maxRecDepth 100000 in
theorem waybillref16_Text.calls (a0 : Int) (r : ByteArray) (w : World) (h : waybillref16_Text.f a0 = some r) :
    Calls Try.prog 16 #[.int .i64 a0] w fun e w' => e = .returned (.string r) ∧ Drawn0 w w' := by
  have H : (if a0 = 200 then (some (⟨#[79, 75]⟩ : ByteArray)) else (if a0 = 311 then (some (⟨#[67, 79, 78, 84, 69, 78, 84, 95, 84, 79, 79, 95, 76, 65, 82, 71, 69]⟩ : ByteArray)) else (if a0 = 312 then (some (⟨#[78, 79, 95, 82, 79, 85, 84, 69]⟩ : ByteArray)) else (if a0 = 403 then (some (⟨#[65, 67, 67, 69, 83, 83, 95, 82, 69, 70, 85, 83, 69, 68]⟩ : ByteArray)) else (if a0 = 404 then (some (⟨#[78, 79, 84, 95, 70, 79, 85, 78, 68]⟩ : ByteArray)) else (if a0 = 406 then (some (⟨#[80, 82, 69, 67, 79, 78, 68, 73, 84, 73, 79, 78, 95, 70, 65, 73, 76, 69, 68]⟩ : ByteArray)) else (if a0 = 501 then (some (⟨#[70, 82, 65, 77, 69, 95, 69, 82, 82, 79, 82]⟩ : ByteArray)) else (if a0 = 502 then (some (⟨#[83, 89, 78, 84, 65, 88, 95, 69, 82, 82, 79, 82]⟩ : ByteArray)) else (if a0 = 503 then (some (⟨#[67, 79, 77, 77, 65, 78, 68, 95, 73, 78, 86, 65, 76, 73, 68]⟩ : ByteArray)) else (if a0 = 504 then (some (⟨#[67, 72, 65, 78, 78, 69, 76, 95, 69, 82, 82, 79, 82]⟩ : ByteArray)) else (if a0 = 505 then (some (⟨#[85, 78, 69, 88, 80, 69, 67, 84, 69, 68, 95, 70, 82, 65, 77, 69]⟩ : ByteArray)) else (if a0 = 506 then (some (⟨#[82, 69, 83, 79, 85, 82, 67, 69, 95, 69, 82, 82, 79, 82]⟩ : ByteArray)) else (if a0 = 530 then (some (⟨#[78, 79, 84, 95, 65, 76, 76, 79, 87, 69, 68]⟩ : ByteArray)) else (if a0 = 540 then (some (⟨#[78, 79, 84, 95, 73, 77, 80, 76, 69, 77, 69, 78, 84, 69, 68]⟩ : ByteArray)) else (some (⟨#[]⟩ : ByteArray)))))))))))))))) = some r := h
  clear h
  by_cases c2 : a0 = 200
  · rw [if_pos c2] at H
    have c2b0 : (a0 == 200) = true := beq_iff_eq.mpr c2
    have c2b1 : (a0 != 200) = false := bne_eq_false_iff_eq.mpr c2
    clear c2
    obtain rfl := Option.some.inj H
    go_enter Try.func16, Try.ntmps16
    go_wp2
    go_ret
    exact ⟨by first | rfl | (simp; done) | (simp [*]; done), by repeat (first | exact Drawn0.refl _ | apply Drawn0.step)⟩
  · rw [if_neg c2] at H
    have c2b0 : (a0 == 200) = false := beq_eq_false_iff_ne.mpr c2
    have c2b1 : (a0 != 200) = true := bne_iff_ne.mpr c2
    by_cases c3 : a0 = 311
    · rw [if_pos c3] at H
      have c3b0 : (a0 == 311) = true := beq_iff_eq.mpr c3
      have c3b1 : (a0 != 311) = false := bne_eq_false_iff_eq.mpr c3
      clear c3
      obtain rfl := Option.some.inj H
      go_enter Try.func16, Try.ntmps16
      go_wp2
      go_ret
      exact ⟨by first | rfl | (simp; done) | (simp [*]; done), by repeat (first | exact Drawn0.refl _ | apply Drawn0.step)⟩
    · rw [if_neg c3] at H
      have c3b0 : (a0 == 311) = false := beq_eq_false_iff_ne.mpr c3
      have c3b1 : (a0 != 311) = true := bne_iff_ne.mpr c3
      by_cases c4 : a0 = 312
      · rw [if_pos c4] at H
        have c4b0 : (a0 == 312) = true := beq_iff_eq.mpr c4
        have c4b1 : (a0 != 312) = false := bne_eq_false_iff_eq.mpr c4
        clear c4
        obtain rfl := Option.some.inj H
        go_enter Try.func16, Try.ntmps16
        go_wp2
        go_ret
        exact ⟨by first | rfl | (simp; done) | (simp [*]; done), by repeat (first | exact Drawn0.refl _ | apply Drawn0.step)⟩
      · rw [if_neg c4] at H
        have c4b0 : (a0 == 312) = false := beq_eq_false_iff_ne.mpr c4
        have c4b1 : (a0 != 312) = true := bne_iff_ne.mpr c4
        by_cases c5 : a0 = 403
        · rw [if_pos c5] at H
          have c5b0 : (a0 == 403) = true := beq_iff_eq.mpr c5
          have c5b1 : (a0 != 403) = false := bne_eq_false_iff_eq.mpr c5
          clear c5
          obtain rfl := Option.some.inj H
          go_enter Try.func16, Try.ntmps16
          go_wp2
          go_ret
          exact ⟨by first | rfl | (simp; done) | (simp [*]; done), by repeat (first | exact Drawn0.refl _ | apply Drawn0.step)⟩
        · rw [if_neg c5] at H
          have c5b0 : (a0 == 403) = false := beq_eq_false_iff_ne.mpr c5
          have c5b1 : (a0 != 403) = true := bne_iff_ne.mpr c5
          by_cases c6 : a0 = 404
          · rw [if_pos c6] at H
            have c6b0 : (a0 == 404) = true := beq_iff_eq.mpr c6
            have c6b1 : (a0 != 404) = false := bne_eq_false_iff_eq.mpr c6
            clear c6
            obtain rfl := Option.some.inj H
            go_enter Try.func16, Try.ntmps16
            go_wp2
            go_ret
            exact ⟨by first | rfl | (simp; done) | (simp [*]; done), by repeat (first | exact Drawn0.refl _ | apply Drawn0.step)⟩
          · rw [if_neg c6] at H
            have c6b0 : (a0 == 404) = false := beq_eq_false_iff_ne.mpr c6
            have c6b1 : (a0 != 404) = true := bne_iff_ne.mpr c6
            by_cases c7 : a0 = 406
            · rw [if_pos c7] at H
              have c7b0 : (a0 == 406) = true := beq_iff_eq.mpr c7
              have c7b1 : (a0 != 406) = false := bne_eq_false_iff_eq.mpr c7
              clear c7
              obtain rfl := Option.some.inj H
              go_enter Try.func16, Try.ntmps16
              go_wp2
              go_ret
              exact ⟨by first | rfl | (simp; done) | (simp [*]; done), by repeat (first | exact Drawn0.refl _ | apply Drawn0.step)⟩
            · rw [if_neg c7] at H
              have c7b0 : (a0 == 406) = false := beq_eq_false_iff_ne.mpr c7
              have c7b1 : (a0 != 406) = true := bne_iff_ne.mpr c7
              by_cases c8 : a0 = 501
              · rw [if_pos c8] at H
                have c8b0 : (a0 == 501) = true := beq_iff_eq.mpr c8
                have c8b1 : (a0 != 501) = false := bne_eq_false_iff_eq.mpr c8
                clear c8
                obtain rfl := Option.some.inj H
                go_enter Try.func16, Try.ntmps16
                go_wp2
                go_ret
                exact ⟨by first | rfl | (simp; done) | (simp [*]; done), by repeat (first | exact Drawn0.refl _ | apply Drawn0.step)⟩
              · rw [if_neg c8] at H
                have c8b0 : (a0 == 501) = false := beq_eq_false_iff_ne.mpr c8
                have c8b1 : (a0 != 501) = true := bne_iff_ne.mpr c8
                by_cases c9 : a0 = 502
                · rw [if_pos c9] at H
                  have c9b0 : (a0 == 502) = true := beq_iff_eq.mpr c9
                  have c9b1 : (a0 != 502) = false := bne_eq_false_iff_eq.mpr c9
                  clear c9
                  obtain rfl := Option.some.inj H
                  go_enter Try.func16, Try.ntmps16
                  go_wp2
                  go_ret
                  exact ⟨by first | rfl | (simp; done) | (simp [*]; done), by repeat (first | exact Drawn0.refl _ | apply Drawn0.step)⟩
                · rw [if_neg c9] at H
                  have c9b0 : (a0 == 502) = false := beq_eq_false_iff_ne.mpr c9
                  have c9b1 : (a0 != 502) = true := bne_iff_ne.mpr c9
                  by_cases c10 : a0 = 503
                  · rw [if_pos c10] at H
                    have c10b0 : (a0 == 503) = true := beq_iff_eq.mpr c10
                    have c10b1 : (a0 != 503) = false := bne_eq_false_iff_eq.mpr c10
                    clear c10
                    obtain rfl := Option.some.inj H
                    go_enter Try.func16, Try.ntmps16
                    go_wp2
                    go_ret
                    exact ⟨by first | rfl | (simp; done) | (simp [*]; done), by repeat (first | exact Drawn0.refl _ | apply Drawn0.step)⟩
                  · rw [if_neg c10] at H
                    have c10b0 : (a0 == 503) = false := beq_eq_false_iff_ne.mpr c10
                    have c10b1 : (a0 != 503) = true := bne_iff_ne.mpr c10
                    by_cases c11 : a0 = 504
                    · rw [if_pos c11] at H
                      have c11b0 : (a0 == 504) = true := beq_iff_eq.mpr c11
                      have c11b1 : (a0 != 504) = false := bne_eq_false_iff_eq.mpr c11
                      clear c11
                      obtain rfl := Option.some.inj H
                      go_enter Try.func16, Try.ntmps16
                      go_wp2
                      go_ret
                      exact ⟨by first | rfl | (simp; done) | (simp [*]; done), by repeat (first | exact Drawn0.refl _ | apply Drawn0.step)⟩
                    · rw [if_neg c11] at H
                      have c11b0 : (a0 == 504) = false := beq_eq_false_iff_ne.mpr c11
                      have c11b1 : (a0 != 504) = true := bne_iff_ne.mpr c11
                      by_cases c12 : a0 = 505
                      · rw [if_pos c12] at H
                        have c12b0 : (a0 == 505) = true := beq_iff_eq.mpr c12
                        have c12b1 : (a0 != 505) = false := bne_eq_false_iff_eq.mpr c12
                        clear c12
                        obtain rfl := Option.some.inj H
                        go_enter Try.func16, Try.ntmps16
                        go_wp2
                        go_ret
                        exact ⟨by first | rfl | (simp; done) | (simp [*]; done), by repeat (first | exact Drawn0.refl _ | apply Drawn0.step)⟩
                      · rw [if_neg c12] at H
                        have c12b0 : (a0 == 505) = false := beq_eq_false_iff_ne.mpr c12
                        have c12b1 : (a0 != 505) = true := bne_iff_ne.mpr c12
                        by_cases c13 : a0 = 506
                        · rw [if_pos c13] at H
                          have c13b0 : (a0 == 506) = true := beq_iff_eq.mpr c13
                          have c13b1 : (a0 != 506) = false := bne_eq_false_iff_eq.mpr c13
                          clear c13
                          obtain rfl := Option.some.inj H
                          go_enter Try.func16, Try.ntmps16
                          go_wp2
                          go_ret
                          exact ⟨by first | rfl | (simp; done) | (simp [*]; done), by repeat (first | exact Drawn0.refl _ | apply Drawn0.step)⟩
                        · rw [if_neg c13] at H
                          have c13b0 : (a0 == 506) = false := beq_eq_false_iff_ne.mpr c13
                          have c13b1 : (a0 != 506) = true := bne_iff_ne.mpr c13
                          by_cases c14 : a0 = 530
                          · rw [if_pos c14] at H
                            have c14b0 : (a0 == 530) = true := beq_iff_eq.mpr c14
                            have c14b1 : (a0 != 530) = false := bne_eq_false_iff_eq.mpr c14
                            clear c14
                            obtain rfl := Option.some.inj H
                            go_enter Try.func16, Try.ntmps16
                            go_wp2
                            go_ret
                            exact ⟨by first | rfl | (simp; done) | (simp [*]; done), by repeat (first | exact Drawn0.refl _ | apply Drawn0.step)⟩
                          · rw [if_neg c14] at H
                            have c14b0 : (a0 == 530) = false := beq_eq_false_iff_ne.mpr c14
                            have c14b1 : (a0 != 530) = true := bne_iff_ne.mpr c14
                            by_cases c15 : a0 = 540
                            · rw [if_pos c15] at H
                              have c15b0 : (a0 == 540) = true := beq_iff_eq.mpr c15
                              have c15b1 : (a0 != 540) = false := bne_eq_false_iff_eq.mpr c15
                              clear c15
                              obtain rfl := Option.some.inj H
                              go_enter Try.func16, Try.ntmps16
                              go_wp2
                              go_ret
                              exact ⟨by first | rfl | (simp; done) | (simp [*]; done), by repeat (first | exact Drawn0.refl _ | apply Drawn0.step)⟩
                            · rw [if_neg c15] at H
                              have c15b0 : (a0 == 540) = false := beq_eq_false_iff_ne.mpr c15
                              have c15b1 : (a0 != 540) = true := bne_iff_ne.mpr c15
                              obtain rfl := Option.some.inj H
                              go_enter Try.func16, Try.ntmps16
                              go_wp2
                              go_ret
                              exact ⟨by first | rfl | (simp; done) | (simp [*]; done), by repeat (first | exact Drawn0.refl _ | apply Drawn0.step)⟩

/-! ### waybillref16_Hard: function 17 -/
def waybillref16_Hard.f (a0 : Int) : Option (Bool) := if a0 ≥ 501 then (if a0 ≤ 506 then (some true) else (if a0 = 530 then (some true) else (some (a0 == 540)))) else (if a0 = 530 then (some true) else (some (a0 == 540)))
set_option maxHeartbeats 8000000 in
set_option maxRecDepth 100000 in
theorem waybillref16_Hard.calls (a0 : Int) (r : Bool) (w : World) (h : waybillref16_Hard.f a0 = some r) :
    Calls Try.prog 17 #[.int .i64 a0] w fun e w' => e = .returned (.bool r) ∧ Drawn0 w w' := by
  have H : (if a0 ≥ 501 then (if a0 ≤ 506 then (some true) else (if a0 = 530 then (some true) else (some (a0 == 540)))) else (if a0 = 530 then (some true) else (some (a0 == 540)))) = some r := h
  clear h
  by_cases c2 : a0 ≥ 501
  · rw [if_pos c2] at H
    have c2b0 : decide (501 ≤ a0) = true := decide_eq_true c2
    clear c2
    by_cases c3 : a0 ≤ 506
    · rw [if_pos c3] at H
      have c3b0 : decide (a0 ≤ 506) = true := decide_eq_true c3
      clear c3
      obtain rfl := Option.some.inj H
      go_enter Try.func17, Try.ntmps17
      go_wp2
      go_ret
      exact ⟨by first | rfl | (simp; done) | (simp [*]; done), by repeat (first | exact Drawn0.refl _ | apply Drawn0.step)⟩
    · rw [if_neg c3] at H
      have c3b0 : decide (a0 ≤ 506) = false := decide_eq_false c3
      clear c3
      by_cases c4 : a0 = 530
      · rw [if_pos c4] at H
        have c4b0 : (a0 == 530) = true := beq_iff_eq.mpr c4
        have c4b1 : (a0 != 530) = false := bne_eq_false_iff_eq.mpr c4
        clear c4
        obtain rfl := Option.some.inj H
        go_enter Try.func17, Try.ntmps17
        go_wp2
        go_ret
        exact ⟨by first | rfl | (simp; done) | (simp [*]; done), by repeat (first | exact Drawn0.refl _ | apply Drawn0.step)⟩
      · rw [if_neg c4] at H
        have c4b0 : (a0 == 530) = false := beq_eq_false_iff_ne.mpr c4
        have c4b1 : (a0 != 530) = true := bne_iff_ne.mpr c4
        obtain rfl := Option.some.inj H
        go_enter Try.func17, Try.ntmps17
        go_wp2
        go_ret
        exact ⟨by first | rfl | (simp; done) | (simp [*]; done), by repeat (first | exact Drawn0.refl _ | apply Drawn0.step)⟩
  · rw [if_neg c2] at H
    have c2b0 : decide (501 ≤ a0) = false := decide_eq_false c2
    clear c2
    by_cases c5 : a0 = 530
    · rw [if_pos c5] at H
      have c5b0 : (a0 == 530) = true := beq_iff_eq.mpr c5
      have c5b1 : (a0 != 530) = false := bne_eq_false_iff_eq.mpr c5
      clear c5
      obtain rfl := Option.some.inj H
      go_enter Try.func17, Try.ntmps17
      go_wp2
      go_ret
      exact ⟨by first | rfl | (simp; done) | (simp [*]; done), by repeat (first | exact Drawn0.refl _ | apply Drawn0.step)⟩
    · rw [if_neg c5] at H
      have c5b0 : (a0 == 530) = false := beq_eq_false_iff_ne.mpr c5
      have c5b1 : (a0 != 530) = true := bne_iff_ne.mpr c5
      obtain rfl := Option.some.inj H
      go_enter Try.func17, Try.ntmps17
      go_wp2
      go_ret
      exact ⟨by first | rfl | (simp; done) | (simp [*]; done), by repeat (first | exact Drawn0.refl _ | apply Drawn0.step)⟩

/-! ### waybillref16_Code: function 18 -/
def waybillref16_Code.f (a0 : Int) : Option (Int) := if a0 = 3 then (some 501) else (if a0 = 4 then (some 502) else (if a0 = 5 then (some 540) else (some 506)))
set_option maxHeartbeats 8000000 in
set_option maxRecDepth 100000 in
theorem waybillref16_Code.calls (a0 : Int) (r : Int) (w : World) (h : waybillref16_Code.f a0 = some r) :
    Calls Try.prog 18 #[.int .i64 a0] w fun e w' => e = .returned (.int .i64 r) ∧ Drawn0 w w' := by
  have H : (if a0 = 3 then (some 501) else (if a0 = 4 then (some 502) else (if a0 = 5 then (some 540) else (some 506)))) = some r := h
  clear h
  by_cases c2 : a0 = 3
  · rw [if_pos c2] at H
    have c2b0 : (a0 == 3) = true := beq_iff_eq.mpr c2
    have c2b1 : (a0 != 3) = false := bne_eq_false_iff_eq.mpr c2
    clear c2
    obtain rfl := Option.some.inj H
    go_enter Try.func18, Try.ntmps18
    go_wp2
    go_ret
    exact ⟨by first | rfl | (simp; done) | (simp [*]; done), by repeat (first | exact Drawn0.refl _ | apply Drawn0.step)⟩
  · rw [if_neg c2] at H
    have c2b0 : (a0 == 3) = false := beq_eq_false_iff_ne.mpr c2
    have c2b1 : (a0 != 3) = true := bne_iff_ne.mpr c2
    by_cases c3 : a0 = 4
    · rw [if_pos c3] at H
      have c3b0 : (a0 == 4) = true := beq_iff_eq.mpr c3
      have c3b1 : (a0 != 4) = false := bne_eq_false_iff_eq.mpr c3
      clear c3
      obtain rfl := Option.some.inj H
      go_enter Try.func18, Try.ntmps18
      go_wp2
      go_ret
      exact ⟨by first | rfl | (simp; done) | (simp [*]; done), by repeat (first | exact Drawn0.refl _ | apply Drawn0.step)⟩
    · rw [if_neg c3] at H
      have c3b0 : (a0 == 4) = false := beq_eq_false_iff_ne.mpr c3
      have c3b1 : (a0 != 4) = true := bne_iff_ne.mpr c3
      by_cases c4 : a0 = 5
      · rw [if_pos c4] at H
        have c4b0 : (a0 == 5) = true := beq_iff_eq.mpr c4
        have c4b1 : (a0 != 5) = false := bne_eq_false_iff_eq.mpr c4
        clear c4
        obtain rfl := Option.some.inj H
        go_enter Try.func18, Try.ntmps18
        go_wp2
        go_ret
        exact ⟨by first | rfl | (simp; done) | (simp [*]; done), by repeat (first | exact Drawn0.refl _ | apply Drawn0.step)⟩
      · rw [if_neg c4] at H
        have c4b0 : (a0 == 5) = false := beq_eq_false_iff_ne.mpr c4
        have c4b1 : (a0 != 5) = true := bne_iff_ne.mpr c4
        obtain rfl := Option.some.inj H
        go_enter Try.func18, Try.ntmps18
        go_wp2
        go_ret
        exact ⟨by first | rfl | (simp; done) | (simp [*]; done), by repeat (first | exact Drawn0.refl _ | apply Drawn0.step)⟩

end Go.Proofs.Ytpfnfmlibpoleaa.PCodeTells
