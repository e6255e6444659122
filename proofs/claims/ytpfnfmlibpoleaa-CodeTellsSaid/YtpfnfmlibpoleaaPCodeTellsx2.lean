-- PRINTED BY print.sh 35421559b90ae4d0a3588c463048766b98c2df88dd9212a6774a882060cdf62d: not written by this session
import Derived.Test.YtpfnfmlibpoleaaPCodeTellsx0
import Derived.Test.YtpfnfmlibpoleaaPCodeTellsx1
namespace Go.Proofs.Ytpfnfmlibpoleaa.PCodeTells
open Go.RowKit Go.Proofs.YtpfnfmlibpoleaaW.PrintWords Go.Proofs.YtpfnfmlibpoleaaW.PrintLast Go.Proofs.YtpfnfmlibpoleaaW.PrintMore
attribute [local go_sem] max2_int min2_int max_two min_two max_three min_three max_four min_four   -- for this text's walks alone
set_option linter.unusedVariables false
set_option linter.unusedSimpArgs false

/-! ### waybilllaw23_CodeTells: function 4 -/
mutual
def waybilllaw23_CodeTells.j0 : Nat → Bool → Option (Bool)
  | 0, _ => none
  | k + 1, x24 => if x24 = true then (some false) else (waybilllaw23_CodeTells.l0 k 0)
def waybilllaw23_CodeTells.l0 : Nat → Int → Option (Bool)
  | 0, _ => none
  | k + 1, x5 => if x5 < 1000 then ((code_Text.f x5).bind fun t110 => ((waybillref16_Text.f x5).bind fun t111 => (if t110.toList = t111.toList then ((code_Hard.f x5).bind fun t112 => ((waybillref16_Hard.f x5).bind fun t113 => (if (t112 != t113) = true then (some false) else ((code_Of.f x5).bind fun t114 => ((waybillref16_Code.f x5).bind fun t115 => (if t114 = t115 then (waybilllaw23_CodeTells.l0 k (wrap64 (x5 + 1))) else (some false))))))) else (some false)))) else ((code_Text.f 404).bind fun t107 => (if t107.toList = ([78, 79, 84, 95, 70, 79, 85, 78, 68] : List UInt8) then ((code_Hard.f 506).bind fun t108 => (if t108 = true then ((code_Hard.f 404).bind fun t109 => (some (!t109))) else (some false))) else (some false)))
end
def waybilllaw23_CodeTells.f (k : Nat) (a0 : Int) (a1 : Int) : Option (Bool) := (code_Text.f a0).bind fun t101 => ((waybillref16_Text.f a0).bind fun t102 => (if t101.toList = t102.toList then ((code_Hard.f a0).bind fun t103 => ((waybillref16_Hard.f a0).bind fun t104 => (if (t103 != t104) = true then (waybilllaw23_CodeTells.j0 k true) else ((code_Of.f a1).bind fun t105 => ((waybillref16_Code.f a1).bind fun t106 => (waybilllaw23_CodeTells.j0 k (t105 != t106))))))) else (waybilllaw23_CodeTells.j0 k true)))
theorem waybilllaw23_CodeTells.mono_l : ∀ k, (∀ y0, LeO (waybilllaw23_CodeTells.j0 k y0) (waybilllaw23_CodeTells.j0 (k + 1) y0)) ∧ (∀ y0, LeO (waybilllaw23_CodeTells.l0 k y0) (waybilllaw23_CodeTells.l0 (k + 1) y0))
  | 0 => ⟨fun _ r h => by simp [waybilllaw23_CodeTells.j0] at h, fun _ r h => by simp [waybilllaw23_CodeTells.l0] at h⟩
  | k + 1 => by
    obtain ⟨ih0, ih1⟩ := waybilllaw23_CodeTells.mono_l k
    refine ⟨?_, ?_⟩
    · intro y0
      unfold waybilllaw23_CodeTells.j0
      repeat' first
      | (with_reducible exact ih0 _)
      | (with_reducible exact ih1 _)
      | (with_reducible exact LeO.refl _)
      | (with_reducible exact LeO.none _)
      | (with_reducible refine LeO.ite ?_ ?_)
      | (with_reducible refine LeO.bind ?_ (fun _ => ?_))
      | exact ih0 _
      | exact ih1 _
      | exact LeO.none _
      | refine LeO.ite ?_ ?_
      | refine LeO.bind ?_ (fun _ => ?_)
    · intro y0
      unfold waybilllaw23_CodeTells.l0
      repeat' first
      | (with_reducible exact ih0 _)
      | (with_reducible exact ih1 _)
      | (with_reducible exact LeO.refl _)
      | (with_reducible exact LeO.none _)
      | (with_reducible refine LeO.ite ?_ ?_)
      | (with_reducible refine LeO.bind ?_ (fun _ => ?_))
      | exact ih0 _
      | exact ih1 _
      | exact LeO.none _
      | refine LeO.ite ?_ ?_
      | refine LeO.bind ?_ (fun _ => ?_)
theorem waybilllaw23_CodeTells.mono : ∀ a0 a1 k, LeO (waybilllaw23_CodeTells.f k a0 a1) (waybilllaw23_CodeTells.f (k + 1) a0 a1) := by
  intro a0 a1 k
  obtain ⟨ih0, ih1⟩ := waybilllaw23_CodeTells.mono_l k
  unfold waybilllaw23_CodeTells.f
  repeat' first
      | (with_reducible exact ih0 _)
      | (with_reducible exact ih1 _)
      | (with_reducible exact LeO.refl _)
      | (with_reducible exact LeO.none _)
      | (with_reducible refine LeO.ite ?_ ?_)
      | (with_reducible refine LeO.bind ?_ (fun _ => ?_))
      | exact ih0 _
      | exact ih1 _
      | exact LeO.none _
      | refine LeO.ite ?_ ?_
      | refine LeO.bind ?_ (fun _ => ?_)
set_option maxHeartbeats 8000000 in
set_option maxRecDepth 100000 in
theorem waybilllaw23_CodeTells.calls (k : Nat) (a0 : Int) (a1 : Int) (r : Bool) (w : World) (h : waybilllaw23_CodeTells.f k a0 a1 = some r) :
    Calls Try.prog 4 #[.int .i64 a0, .int .i64 a1] w fun e w' => e = .returned (.bool r) ∧ Drawn0 w w' := by
  have H : ((code_Text.f a0).bind fun t101 => ((waybillref16_Text.f a0).bind fun t102 => (if t101.toList = t102.toList then ((code_Hard.f a0).bind fun t103 => ((waybillref16_Hard.f a0).bind fun t104 => (if (t103 != t104) = true then (waybilllaw23_CodeTells.j0 k true) else ((code_Of.f a1).bind fun t105 => ((waybillref16_Code.f a1).bind fun t106 => (waybilllaw23_CodeTells.j0 k (t105 != t106))))))) else (waybilllaw23_CodeTells.j0 k true)))) = some r := h
  clear h
  have HC3 := Aside0.mk H
  clear H
  go_enter Try.func4, Try.ntmps4
  go_upto_region 1 with (fail)
  go_cut [24] (fun v24 wc => ∃ (kq : Nat) (x24_2 : Bool), v24 = .bool x24_2 ∧ Aside0 (waybilllaw23_CodeTells.j0 kq x24_2 = some r) ∧ Aside0 (kq ≤ k) ∧ Drawn0 w wc)
  case first =>
    have H := HC3.out
    clear HC3
    replace H := Option.bind_eq_some_iff.mp H
    obtain ⟨t101, A40, H⟩ := H
    replace H : ((waybillref16_Text.f a0).bind fun t102 => (if t101.toList = t102.toList then ((code_Hard.f a0).bind fun t103 => ((waybillref16_Hard.f a0).bind fun t104 => (if (t103 != t104) = true then (waybilllaw23_CodeTells.j0 k true) else ((code_Of.f a1).bind fun t105 => ((waybillref16_Code.f a1).bind fun t106 => (waybilllaw23_CodeTells.j0 k (t105 != t106))))))) else (waybilllaw23_CodeTells.j0 k true))) = some r := H
    have A4 := Aside0.mk A40
    clear A40
    replace H := Option.bind_eq_some_iff.mp H
    obtain ⟨t102, A50, H⟩ := H
    replace H : (if t101.toList = t102.toList then ((code_Hard.f a0).bind fun t103 => ((waybillref16_Hard.f a0).bind fun t104 => (if (t103 != t104) = true then (waybilllaw23_CodeTells.j0 k true) else ((code_Of.f a1).bind fun t105 => ((waybillref16_Code.f a1).bind fun t106 => (waybilllaw23_CodeTells.j0 k (t105 != t106))))))) else (waybilllaw23_CodeTells.j0 k true)) = some r := H
    have A5 := Aside0.mk A50
    clear A50
    by_cases c6 : t101.toList = t102.toList
    · rw [if_pos c6] at H
      have c6b0 : (t101.toList == t102.toList) = true := beq_iff_eq.mpr c6
      have c6b1 : (t101.toList != t102.toList) = false := bne_eq_false_iff_eq.mpr c6
      clear c6
      (first | rw [c6b0] | (simp only [i64_w, i32_w]; rw [c6b0]) | skip)
      replace H := Option.bind_eq_some_iff.mp H
      obtain ⟨t103, A70, H⟩ := H
      replace H : ((waybillref16_Hard.f a0).bind fun t104 => (if (t103 != t104) = true then (waybilllaw23_CodeTells.j0 k true) else ((code_Of.f a1).bind fun t105 => ((waybillref16_Code.f a1).bind fun t106 => (waybilllaw23_CodeTells.j0 k (t105 != t106)))))) = some r := H
      have A7 := Aside0.mk A70
      clear A70
      replace H := Option.bind_eq_some_iff.mp H
      obtain ⟨t104, A80, H⟩ := H
      replace H : (if (t103 != t104) = true then (waybilllaw23_CodeTells.j0 k true) else ((code_Of.f a1).bind fun t105 => ((waybillref16_Code.f a1).bind fun t106 => (waybilllaw23_CodeTells.j0 k (t105 != t106))))) = some r := H
      have A8 := Aside0.mk A80
      clear A80
      by_cases c9 : (t103 != t104) = true
      · rw [if_pos c9] at H
        have c9b0 : (t103 != t104) = true := c9
        (try (have c9b1 : decide (t103 = t104) = false := by simpa using c9))
        (try (have c9b2 : (t103 == t104) = false := by simpa using c9))
        (try (have c9b3 : ¬ (t103 = t104) := by simpa using c9))
        clear c9
        have H' := Aside0.mk H
        clear H
        go_wp2_with (first | ((with_reducible refine gate_callee (f := 14) rfl ?_); refine goesL_ (some 7) rfl rfl Try.func14 (by kernel_rfl) rfl #[.int .i64 a0] rfl (by (try simp only [List.map_toArray, List.map_cons, List.map_nil]); first | done | rfl | (simp only [List.length_drop, List.length_take]; rfl)) ?_; (with_reducible refine (code_Text.calls a0 t101 _ A4.out).mono ?_); rintro e w' ⟨rfl, ⟨nd, rfl⟩⟩; refine ⟨_, rfl, ?_⟩) | ((with_reducible refine gate_callee (f := 16) rfl ?_); refine goesL_ (some 9) rfl rfl Try.func16 (by kernel_rfl) rfl #[.int .i64 a0] rfl (by (try simp only [List.map_toArray, List.map_cons, List.map_nil]); first | done | rfl | (simp only [List.length_drop, List.length_take]; rfl)) ?_; (with_reducible refine (waybillref16_Text.calls a0 t102 _ A5.out).mono ?_); rintro e w' ⟨rfl, ⟨nd, rfl⟩⟩; refine ⟨_, rfl, ?_⟩) | (go_at_call 13; (with_reducible refine (code_Hard.calls a0 t103 _ A7.out).mono ?_); rintro e w' ⟨rfl, ⟨nd, rfl⟩⟩) | (go_at_call 17; (with_reducible refine (waybillref16_Hard.calls a0 t104 _ A8.out).mono ?_); rintro e w' ⟨rfl, ⟨nd, rfl⟩⟩))
        go_meet
        case rel => exact ⟨_, (true), (by first | rfl | (simp; done) | (simp [*]; done)), H', ⟨by first | omega | exact Nat.le_refl _⟩, by repeat (first | exact Drawn0.refl _ | apply Drawn0.step)⟩
      · rw [if_neg c9] at H
        have c9b0 : (t103 != t104) = false := by simpa using c9
        (try (have c9b1 : decide (t103 = t104) = true := by simpa using c9))
        (try (have c9b2 : (t103 == t104) = true := by simpa using c9))
        clear c9
        replace H := Option.bind_eq_some_iff.mp H
        obtain ⟨t105, A100, H⟩ := H
        replace H : ((waybillref16_Code.f a1).bind fun t106 => (waybilllaw23_CodeTells.j0 k (t105 != t106))) = some r := H
        have A10 := Aside0.mk A100
        clear A100
        replace H := Option.bind_eq_some_iff.mp H
        obtain ⟨t106, A110, H⟩ := H
        replace H : (waybilllaw23_CodeTells.j0 k (t105 != t106)) = some r := H
        have A11 := Aside0.mk A110
        clear A110
        have H' := Aside0.mk H
        clear H
        go_wp2_with (first | ((with_reducible refine gate_callee (f := 14) rfl ?_); refine goesL_ (some 7) rfl rfl Try.func14 (by kernel_rfl) rfl #[.int .i64 a0] rfl (by (try simp only [List.map_toArray, List.map_cons, List.map_nil]); first | done | rfl | (simp only [List.length_drop, List.length_take]; rfl)) ?_; (with_reducible refine (code_Text.calls a0 t101 _ A4.out).mono ?_); rintro e w' ⟨rfl, ⟨nd, rfl⟩⟩; refine ⟨_, rfl, ?_⟩) | ((with_reducible refine gate_callee (f := 16) rfl ?_); refine goesL_ (some 9) rfl rfl Try.func16 (by kernel_rfl) rfl #[.int .i64 a0] rfl (by (try simp only [List.map_toArray, List.map_cons, List.map_nil]); first | done | rfl | (simp only [List.length_drop, List.length_take]; rfl)) ?_; (with_reducible refine (waybillref16_Text.calls a0 t102 _ A5.out).mono ?_); rintro e w' ⟨rfl, ⟨nd, rfl⟩⟩; refine ⟨_, rfl, ?_⟩) | (go_at_call 13; (with_reducible refine (code_Hard.calls a0 t103 _ A7.out).mono ?_); rintro e w' ⟨rfl, ⟨nd, rfl⟩⟩) | (go_at_call 17; (with_reducible refine (waybillref16_Hard.calls a0 t104 _ A8.out).mono ?_); rintro e w' ⟨rfl, ⟨nd, rfl⟩⟩) | (go_at_call 15; (with_reducible refine (code_Of.calls a1 t105 _ A10.out).mono ?_); rintro e w' ⟨rfl, ⟨nd, rfl⟩⟩) | (go_at_call 18; (with_reducible refine (waybillref16_Code.calls a1 t106 _ A11.out).mono ?_); rintro e w' ⟨rfl, ⟨nd, rfl⟩⟩))
        go_meet
        case rel => exact ⟨_, ((t105 != t106)), (by first | rfl | (simp; done) | (simp [*]; done)), H', ⟨by first | omega | exact Nat.le_refl _⟩, by repeat (first | exact Drawn0.refl _ | apply Drawn0.step)⟩
    · rw [if_neg c6] at H
      have c6b0 : (t101.toList == t102.toList) = false := beq_eq_false_iff_ne.mpr c6
      have c6b1 : (t101.toList != t102.toList) = true := bne_iff_ne.mpr c6
      (first | rw [c6b0] | (simp only [i64_w, i32_w]; rw [c6b0]) | skip)
      have H' := Aside0.mk H
      clear H
      go_wp2_with (first | ((with_reducible refine gate_callee (f := 14) rfl ?_); refine goesL_ (some 7) rfl rfl Try.func14 (by kernel_rfl) rfl #[.int .i64 a0] rfl (by (try simp only [List.map_toArray, List.map_cons, List.map_nil]); first | done | rfl | (simp only [List.length_drop, List.length_take]; rfl)) ?_; (with_reducible refine (code_Text.calls a0 t101 _ A4.out).mono ?_); rintro e w' ⟨rfl, ⟨nd, rfl⟩⟩; refine ⟨_, rfl, ?_⟩) | ((with_reducible refine gate_callee (f := 16) rfl ?_); refine goesL_ (some 9) rfl rfl Try.func16 (by kernel_rfl) rfl #[.int .i64 a0] rfl (by (try simp only [List.map_toArray, List.map_cons, List.map_nil]); first | done | rfl | (simp only [List.length_drop, List.length_take]; rfl)) ?_; (with_reducible refine (waybillref16_Text.calls a0 t102 _ A5.out).mono ?_); rintro e w' ⟨rfl, ⟨nd, rfl⟩⟩; refine ⟨_, rfl, ?_⟩))
      go_meet
      case rel => exact ⟨_, (true), (by first | rfl | (simp; done) | (simp [*]; done)), H', ⟨by first | omega | exact Nat.le_refl _⟩, by repeat (first | exact Drawn0.refl _ | apply Drawn0.step)⟩
  case rest =>
    clear HC3
    try clear c1
    try clear p2
    try clear c4
    try clear c6
    try clear c6b0
    try clear c6b1
    try clear c9
    try clear c9b0
    try clear c9b1
    try clear c9b2
    obtain ⟨kq, x24_2, rfl, HA, HJ2, ⟨mc2, rfl⟩⟩ := hcut
    cases kq with
    | zero => exact absurd HA.out (by simp [waybilllaw23_CodeTells.j0])
    | succ kj2 =>
      have H := HA.out
      clear HA
      simp only [waybilllaw23_CodeTells.j0] at H
      by_cases c12 : x24_2 = true
      · subst c12
        have H1 : (some false) = some r := by rw [if_pos rfl] at H; exact H
        clear H
        have H := H1
        clear H1
        obtain rfl := Option.some.inj H
        go_wp2
        go_ret
        exact ⟨by first | rfl | (simp; done) | (simp [*]; done), by repeat (first | exact Drawn0.refl _ | apply Drawn0.step)⟩
      · replace c12 := Bool.eq_false_iff.mpr c12
        subst c12
        have H1 : (waybilllaw23_CodeTells.l0 kj2 0) = some r := by rw [if_neg (show ¬ (false = true) by decide)] at H; exact H
        clear H
        have H := H1
        clear H1
        have H' := Aside0.mk H
        clear H
        go_wp2
        go_loopg [5] kj2 (fun kq v5 w' => ∃ (x5_2 : Int), v5 = .int .i64 x5_2 ∧ Aside0 (waybilllaw23_CodeTells.l0 kq x5_2 = some r) ∧ Aside0 (kq ≤ kj2) ∧ Drawn0 w w')
        case atStart => exact ⟨(0), (by first | rfl | (simp; done) | (simp [*]; done)), H', ⟨Nat.le_refl _⟩, by repeat (first | exact Drawn0.refl _ | apply Drawn0.step)⟩
        case round =>
          clear H'
          try clear c1
          try clear c2
          try clear p2
          try clear c4
          try clear c6
          try clear c6b0
          try clear c6b1
          try clear c9
          try clear c9b0
          try clear c9b1
          try clear c9b2
          try clear c12
          try clear p2
          obtain ⟨x5_2, rfl, HA, HK2, ⟨m2, rfl⟩⟩ := hrel
          cases gk with
          | zero => exact absurd HA.out (by simp [waybilllaw23_CodeTells.l0])
          | succ k2 =>
            have H := HA.out
            clear HA
            simp only [waybilllaw23_CodeTells.l0] at H
            by_cases c13 : x5_2 < 1000
            · rw [if_pos c13] at H
              have c13b0 : decide (x5_2 < 1000) = true := decide_eq_true c13
              clear c13
              replace H := Option.bind_eq_some_iff.mp H
              obtain ⟨t110, A140, H⟩ := H
              replace H : ((waybillref16_Text.f x5_2).bind fun t111 => (if t110.toList = t111.toList then ((code_Hard.f x5_2).bind fun t112 => ((waybillref16_Hard.f x5_2).bind fun t113 => (if (t112 != t113) = true then (some false) else ((code_Of.f x5_2).bind fun t114 => ((waybillref16_Code.f x5_2).bind fun t115 => (if t114 = t115 then (waybilllaw23_CodeTells.l0 k2 (wrap64 (x5_2 + 1))) else (some false))))))) else (some false))) = some r := H
              have A14 := Aside0.mk A140
              clear A140
              replace H := Option.bind_eq_some_iff.mp H
              obtain ⟨t111, A150, H⟩ := H
              replace H : (if t110.toList = t111.toList then ((code_Hard.f x5_2).bind fun t112 => ((waybillref16_Hard.f x5_2).bind fun t113 => (if (t112 != t113) = true then (some false) else ((code_Of.f x5_2).bind fun t114 => ((waybillref16_Code.f x5_2).bind fun t115 => (if t114 = t115 then (waybilllaw23_CodeTells.l0 k2 (wrap64 (x5_2 + 1))) else (some false))))))) else (some false)) = some r := H
              have A15 := Aside0.mk A150
              clear A150
              by_cases c16 : t110.toList = t111.toList
              · rw [if_pos c16] at H
                have c16b0 : (t110.toList == t111.toList) = true := beq_iff_eq.mpr c16
                have c16b1 : (t110.toList != t111.toList) = false := bne_eq_false_iff_eq.mpr c16
                clear c16
                replace H := Option.bind_eq_some_iff.mp H
                obtain ⟨t112, A170, H⟩ := H
                replace H : ((waybillref16_Hard.f x5_2).bind fun t113 => (if (t112 != t113) = true then (some false) else ((code_Of.f x5_2).bind fun t114 => ((waybillref16_Code.f x5_2).bind fun t115 => (if t114 = t115 then (waybilllaw23_CodeTells.l0 k2 (wrap64 (x5_2 + 1))) else (some false)))))) = some r := H
                have A17 := Aside0.mk A170
                clear A170
                replace H := Option.bind_eq_some_iff.mp H
                obtain ⟨t113, A180, H⟩ := H
                replace H : (if (t112 != t113) = true then (some false) else ((code_Of.f x5_2).bind fun t114 => ((waybillref16_Code.f x5_2).bind fun t115 => (if t114 = t115 then (waybilllaw23_CodeTells.l0 k2 (wrap64 (x5_2 + 1))) else (some false))))) = some r := H
                have A18 := Aside0.mk A180
                clear A180
                by_cases c19 : (t112 != t113) = true
                · rw [if_pos c19] at H
                  have c19b0 : (t112 != t113) = true := c19
                  (try (have c19b1 : decide (t112 = t113) = false := by simpa using c19))
                  (try (have c19b2 : (t112 == t113) = false := by simpa using c19))
                  (try (have c19b3 : ¬ (t112 = t113) := by simpa using c19))
                  clear c19
                  obtain rfl := Option.some.inj H
                  go_wp2_with (first | ((with_reducible refine gate_callee (f := 14) rfl ?_); refine goesL_ (some 30) rfl rfl Try.func14 (by kernel_rfl) rfl #[.int .i64 x5_2] rfl (by (try simp only [List.map_toArray, List.map_cons, List.map_nil]); first | done | rfl | (simp only [List.length_drop, List.length_take]; rfl)) ?_; (with_reducible refine (code_Text.calls x5_2 t110 _ A14.out).mono ?_); rintro e w' ⟨rfl, ⟨nd, rfl⟩⟩; refine ⟨_, rfl, ?_⟩) | ((with_reducible refine gate_callee (f := 16) rfl ?_); refine goesL_ (some 32) rfl rfl Try.func16 (by kernel_rfl) rfl #[.int .i64 x5_2] rfl (by (try simp only [List.map_toArray, List.map_cons, List.map_nil]); first | done | rfl | (simp only [List.length_drop, List.length_take]; rfl)) ?_; (with_reducible refine (waybillref16_Text.calls x5_2 t111 _ A15.out).mono ?_); rintro e w' ⟨rfl, ⟨nd, rfl⟩⟩; refine ⟨_, rfl, ?_⟩) | (go_at_call 13; (with_reducible refine (code_Hard.calls x5_2 t112 _ A17.out).mono ?_); rintro e w' ⟨rfl, ⟨nd, rfl⟩⟩) | (go_at_call 17; (with_reducible refine (waybillref16_Hard.calls x5_2 t113 _ A18.out).mono ?_); rintro e w' ⟨rfl, ⟨nd, rfl⟩⟩))
                  go_ret
                  exact ⟨by first | rfl | (simp; done) | (simp [*]; done), by repeat (first | exact Drawn0.refl _ | apply Drawn0.step)⟩
                · rw [if_neg c19] at H
                  have c19b0 : (t112 != t113) = false := by simpa using c19
                  (try (have c19b1 : decide (t112 = t113) = true := by simpa using c19))
                  (try (have c19b2 : (t112 == t113) = true := by simpa using c19))
                  clear c19
                  replace H := Option.bind_eq_some_iff.mp H
                  obtain ⟨t114, A200, H⟩ := H
                  replace H : ((waybillref16_Code.f x5_2).bind fun t115 => (if t114 = t115 then (waybilllaw23_CodeTells.l0 k2 (wrap64 (x5_2 + 1))) else (some false))) = some r := H
                  have A20 := Aside0.mk A200
                  clear A200
                  replace H := Option.bind_eq_some_iff.mp H
                  obtain ⟨t115, A210, H⟩ := H
                  replace H : (if t114 = t115 then (waybilllaw23_CodeTells.l0 k2 (wrap64 (x5_2 + 1))) else (some false)) = some r := H
                  have A21 := Aside0.mk A210
                  clear A210
                  by_cases c22 : t114 = t115
                  · rw [if_pos c22] at H
                    have c22b0 : (t114 == t115) = true := beq_iff_eq.mpr c22
                    have c22b1 : (t114 != t115) = false := bne_eq_false_iff_eq.mpr c22
                    clear c22
                    have H' := Aside0.mk H
                    clear H
                    go_wp2_with (first | ((with_reducible refine gate_callee (f := 14) rfl ?_); refine goesL_ (some 30) rfl rfl Try.func14 (by kernel_rfl) rfl #[.int .i64 x5_2] rfl (by (try simp only [List.map_toArray, List.map_cons, List.map_nil]); first | done | rfl | (simp only [List.length_drop, List.length_take]; rfl)) ?_; (with_reducible refine (code_Text.calls x5_2 t110 _ A14.out).mono ?_); rintro e w' ⟨rfl, ⟨nd, rfl⟩⟩; refine ⟨_, rfl, ?_⟩) | ((with_reducible refine gate_callee (f := 16) rfl ?_); refine goesL_ (some 32) rfl rfl Try.func16 (by kernel_rfl) rfl #[.int .i64 x5_2] rfl (by (try simp only [List.map_toArray, List.map_cons, List.map_nil]); first | done | rfl | (simp only [List.length_drop, List.length_take]; rfl)) ?_; (with_reducible refine (waybillref16_Text.calls x5_2 t111 _ A15.out).mono ?_); rintro e w' ⟨rfl, ⟨nd, rfl⟩⟩; refine ⟨_, rfl, ?_⟩) | (go_at_call 13; (with_reducible refine (code_Hard.calls x5_2 t112 _ A17.out).mono ?_); rintro e w' ⟨rfl, ⟨nd, rfl⟩⟩) | (go_at_call 17; (with_reducible refine (waybillref16_Hard.calls x5_2 t113 _ A18.out).mono ?_); rintro e w' ⟨rfl, ⟨nd, rfl⟩⟩) | (go_at_call 15; (with_reducible refine (code_Of.calls x5_2 t114 _ A20.out).mono ?_); rintro e w' ⟨rfl, ⟨nd, rfl⟩⟩) | (go_at_call 18; (with_reducible refine (waybillref16_Code.calls x5_2 t115 _ A21.out).mono ?_); rintro e w' ⟨rfl, ⟨nd, rfl⟩⟩))
                    go_roundg k2
                    case measure => have := HJ2.out; have := HK2.out; omega
                    case rel => exact ⟨(wrap64 (x5_2 + 1)), (by first | rfl | (simp; done) | (simp [*]; done)), H', ⟨by have := HJ2.out; have := HK2.out; omega⟩, by repeat (first | exact Drawn0.refl _ | apply Drawn0.step)⟩
                  · rw [if_neg c22] at H
                    have c22b0 : (t114 == t115) = false := beq_eq_false_iff_ne.mpr c22
                    have c22b1 : (t114 != t115) = true := bne_iff_ne.mpr c22
                    obtain rfl := Option.some.inj H
                    go_wp2_with (first | ((with_reducible refine gate_callee (f := 14) rfl ?_); refine goesL_ (some 30) rfl rfl Try.func14 (by kernel_rfl) rfl #[.int .i64 x5_2] rfl (by (try simp only [List.map_toArray, List.map_cons, List.map_nil]); first | done | rfl | (simp only [List.length_drop, List.length_take]; rfl)) ?_; (with_reducible refine (code_Text.calls x5_2 t110 _ A14.out).mono ?_); rintro e w' ⟨rfl, ⟨nd, rfl⟩⟩; refine ⟨_, rfl, ?_⟩) | ((with_reducible refine gate_callee (f := 16) rfl ?_); refine goesL_ (some 32) rfl rfl Try.func16 (by kernel_rfl) rfl #[.int .i64 x5_2] rfl (by (try simp only [List.map_toArray, List.map_cons, List.map_nil]); first | done | rfl | (simp only [List.length_drop, List.length_take]; rfl)) ?_; (with_reducible refine (waybillref16_Text.calls x5_2 t111 _ A15.out).mono ?_); rintro e w' ⟨rfl, ⟨nd, rfl⟩⟩; refine ⟨_, rfl, ?_⟩) | (go_at_call 13; (with_reducible refine (code_Hard.calls x5_2 t112 _ A17.out).mono ?_); rintro e w' ⟨rfl, ⟨nd, rfl⟩⟩) | (go_at_call 17; (with_reducible refine (waybillref16_Hard.calls x5_2 t113 _ A18.out).mono ?_); rintro e w' ⟨rfl, ⟨nd, rfl⟩⟩) | (go_at_call 15; (with_reducible refine (code_Of.calls x5_2 t114 _ A20.out).mono ?_); rintro e w' ⟨rfl, ⟨nd, rfl⟩⟩) | (go_at_call 18; (with_reducible refine (waybillref16_Code.calls x5_2 t115 _ A21.out).mono ?_); rintro e w' ⟨rfl, ⟨nd, rfl⟩⟩))
                    go_ret
                    exact ⟨by first | rfl | (simp; done) | (simp [*]; done), by repeat (first | exact Drawn0.refl _ | apply Drawn0.step)⟩
              · rw [if_neg c16] at H
                have c16b0 : (t110.toList == t111.toList) = false := beq_eq_false_iff_ne.mpr c16
                have c16b1 : (t110.toList != t111.toList) = true := bne_iff_ne.mpr c16
                obtain rfl := Option.some.inj H
                go_wp2_with (first | ((with_reducible refine gate_callee (f := 14) rfl ?_); refine goesL_ (some 30) rfl rfl Try.func14 (by kernel_rfl) rfl #[.int .i64 x5_2] rfl (by (try simp only [List.map_toArray, List.map_cons, List.map_nil]); first | done | rfl | (simp only [List.length_drop, List.length_take]; rfl)) ?_; (with_reducible refine (code_Text.calls x5_2 t110 _ A14.out).mono ?_); rintro e w' ⟨rfl, ⟨nd, rfl⟩⟩; refine ⟨_, rfl, ?_⟩) | ((with_reducible refine gate_callee (f := 16) rfl ?_); refine goesL_ (some 32) rfl rfl Try.func16 (by kernel_rfl) rfl #[.int .i64 x5_2] rfl (by (try simp only [List.map_toArray, List.map_cons, List.map_nil]); first | done | rfl | (simp only [List.length_drop, List.length_take]; rfl)) ?_; (with_reducible refine (waybillref16_Text.calls x5_2 t111 _ A15.out).mono ?_); rintro e w' ⟨rfl, ⟨nd, rfl⟩⟩; refine ⟨_, rfl, ?_⟩))
                go_ret
                exact ⟨by first | rfl | (simp; done) | (simp [*]; done), by repeat (first | exact Drawn0.refl _ | apply Drawn0.step)⟩
            · rw [if_neg c13] at H
              have c13b0 : decide (x5_2 < 1000) = false := decide_eq_false c13
              clear c13
              replace H := Option.bind_eq_some_iff.mp H
              obtain ⟨t107, A230, H⟩ := H
              replace H : (if t107.toList = ([78, 79, 84, 95, 70, 79, 85, 78, 68] : List UInt8) then ((code_Hard.f 506).bind fun t108 => (if t108 = true then ((code_Hard.f 404).bind fun t109 => (some (!t109))) else (some false))) else (some false)) = some r := H
              have A23 := Aside0.mk A230
              clear A230
              by_cases c24 : t107.toList = ([78, 79, 84, 95, 70, 79, 85, 78, 68] : List UInt8)
              · rw [if_pos c24] at H
                have c24b0 : (t107.toList == ([78, 79, 84, 95, 70, 79, 85, 78, 68] : List UInt8)) = true := beq_iff_eq.mpr c24
                have c24b1 : (t107.toList != ([78, 79, 84, 95, 70, 79, 85, 78, 68] : List UInt8)) = false := bne_eq_false_iff_eq.mpr c24
                clear c24
                replace H := Option.bind_eq_some_iff.mp H
                obtain ⟨t108, A250, H⟩ := H
                replace H : (if t108 = true then ((code_Hard.f 404).bind fun t109 => (some (!t109))) else (some false)) = some r := H
                have A25 := Aside0.mk A250
                clear A250
                by_cases c26 : t108 = true
                · subst c26
                  have H1 : ((code_Hard.f 404).bind fun t109 => (some (!t109))) = some r := by rw [if_pos rfl] at H; exact H
                  clear H
                  have H := H1
                  clear H1
                  replace H := Option.bind_eq_some_iff.mp H
                  obtain ⟨t109, A270, H⟩ := H
                  replace H : (some (!t109)) = some r := H
                  have A27 := Aside0.mk A270
                  clear A270
                  obtain rfl := Option.some.inj H
                  go_wp2_with (first | ((with_reducible refine gate_callee (f := 14) rfl ?_); refine goesL_ (some 48) rfl rfl Try.func14 (by kernel_rfl) rfl #[.int .i64 404] rfl (by (try simp only [List.map_toArray, List.map_cons, List.map_nil]); first | done | rfl | (simp only [List.length_drop, List.length_take]; rfl)) ?_; (with_reducible refine (code_Text.calls 404 t107 _ A23.out).mono ?_); rintro e w' ⟨rfl, ⟨nd, rfl⟩⟩; refine ⟨_, rfl, ?_⟩) | (go_at_call 13; (with_reducible refine (code_Hard.calls 506 true _ A25.out).mono ?_); rintro e w' ⟨rfl, ⟨nd, rfl⟩⟩) | (go_at_call 13; (with_reducible refine (code_Hard.calls 404 t109 _ A27.out).mono ?_); rintro e w' ⟨rfl, ⟨nd, rfl⟩⟩))
                  go_ret
                  exact ⟨by first | rfl | (simp; done) | (simp [*]; done), by repeat (first | exact Drawn0.refl _ | apply Drawn0.step)⟩
                · replace c26 := Bool.eq_false_iff.mpr c26
                  subst c26
                  have H1 : (some false) = some r := by rw [if_neg (show ¬ (false = true) by decide)] at H; exact H
                  clear H
                  have H := H1
                  clear H1
                  obtain rfl := Option.some.inj H
                  go_wp2_with (first | ((with_reducible refine gate_callee (f := 14) rfl ?_); refine goesL_ (some 48) rfl rfl Try.func14 (by kernel_rfl) rfl #[.int .i64 404] rfl (by (try simp only [List.map_toArray, List.map_cons, List.map_nil]); first | done | rfl | (simp only [List.length_drop, List.length_take]; rfl)) ?_; (with_reducible refine (code_Text.calls 404 t107 _ A23.out).mono ?_); rintro e w' ⟨rfl, ⟨nd, rfl⟩⟩; refine ⟨_, rfl, ?_⟩) | (go_at_call 13; (with_reducible refine (code_Hard.calls 506 false _ A25.out).mono ?_); rintro e w' ⟨rfl, ⟨nd, rfl⟩⟩))
                  go_ret
                  exact ⟨by first | rfl | (simp; done) | (simp [*]; done), by repeat (first | exact Drawn0.refl _ | apply Drawn0.step)⟩
              · rw [if_neg c24] at H
                have c24b0 : (t107.toList == ([78, 79, 84, 95, 70, 79, 85, 78, 68] : List UInt8)) = false := beq_eq_false_iff_ne.mpr c24
                have c24b1 : (t107.toList != ([78, 79, 84, 95, 70, 79, 85, 78, 68] : List UInt8)) = true := bne_iff_ne.mpr c24
                obtain rfl := Option.some.inj H
                go_wp2_with (first | ((with_reducible refine gate_callee (f := 14) rfl ?_); refine goesL_ (some 48) rfl rfl Try.func14 (by kernel_rfl) rfl #[.int .i64 404] rfl (by (try simp only [List.map_toArray, List.map_cons, List.map_nil]); first | done | rfl | (simp only [List.length_drop, List.length_take]; rfl)) ?_; (with_reducible refine (code_Text.calls 404 t107 _ A23.out).mono ?_); rintro e w' ⟨rfl, ⟨nd, rfl⟩⟩; refine ⟨_, rfl, ?_⟩))
                go_ret
                exact ⟨by first | rfl | (simp; done) | (simp [*]; done), by repeat (first | exact Drawn0.refl _ | apply Drawn0.step)⟩

/-- THE ONE PURE STATEMENT of waybilllaw23_CodeTells: yours. -/
def waybilllaw23_CodeTells.Pure : Prop := ∀ (a0 : Int) (a1 : Int), (Lit.int .i64 a0).wf = true → (Lit.int .i64 a1).wf = true → ∃ k, waybilllaw23_CodeTells.f k a0 a1 = some true
theorem waybilllaw23_CodeTells.walk (P : waybilllaw23_CodeTells.Pure) (a0 : Int) (a1 : Int) (w : World) (w0 : (Lit.int .i64 a0).wf = true) (w1 : (Lit.int .i64 a1).wf = true) :
    Calls Try.prog 4 #[.int .i64 a0, .int .i64 a1] w fun e w' => e = .returned (.bool true) ∧ Below w.heap.size w w' := by
  obtain ⟨k, h⟩ := P a0 a1 w0 w1
  refine (waybilllaw23_CodeTells.calls k a0 a1 true w h).mono ?_
  rintro e w' ⟨rfl, hd⟩
  exact ⟨rfl, hd.below⟩

end Go.Proofs.Ytpfnfmlibpoleaa.PCodeTells
