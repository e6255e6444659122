/- The document's methods, plainly: which fit their form, what they say; and that the program's are the same. -/
import Derived.Test.YtpfnfmlibpoleaaRefTP
import Derived.Test.YtpfnfmlibpoleaaMethN
set_option linter.unusedVariables false
set_option linter.unusedSimpArgs false
namespace Go.Proofs.Ytpfnfmlibpoleaa.Pr
open Go Go.Lift Go.Proofs

/-- The letters that forms have. -/
def letterD (c : UInt8) : Prop := c = 102 ∨ c = 115 ∨ c = 108 ∨ c = 116 ∨ c = 49 ∨ c = 50 ∨ c = 52 ∨ c = 56
def niceForm (f : Oct) : Prop := (∀ c ∈ f, letterD c) ∧ f.countP isT ≤ 1 ∧ f.length < 16
instance (c : UInt8) : Decidable (letterD c) := by unfold letterD; infer_instance
instance (f : Oct) : Decidable (niceForm f) := by unfold niceForm; infer_instance
theorem forms_nice : ∀ x ∈ knownL, niceForm x.2 := by decide +kernel
theorem formP_nice {c : Int × Int} {f : Oct} (h : formP c = some f) : niceForm f := forms_nice (c, f) (get?_mem h)

def fitsNS : Oct → List Nat → List Oct → Bool
  | [], N, S => decide (N = [] ∧ S = [])
  | c :: r, N, S =>
    if c = 115 ∨ c = 108 then match S with
      | [] => false
      | s :: S' => (decide (c = 108) || decide (s.length ≤ 255)) && fitsNS r N S'
    else if c = 116 ∨ c = 102 then fitsNS r N S
    else match N with
      | [] => false
      | v :: N' => (decide (c.toNat - 48 = 8) || decide (v / 256 ^ (c.toNat - 48) = 0)) && fitsNS r N' S
theorem fitsNS_cons (c : UInt8) (r : Oct) (N : List Nat) (S : List Oct) : fitsNS (c :: r) N S = (if c = 115 ∨ c = 108 then match S with
      | [] => false
      | s :: S' => (decide (c = 108) || decide (s.length ≤ 255)) && fitsNS r N S'
    else if c = 116 ∨ c = 102 then fitsNS r N S
    else match N with
      | [] => false
      | v :: N' => (decide (c.toNat - 48 = 8) || decide (v / 256 ^ (c.toNat - 48) = 0)) && fitsNS r N' S) := by
  conv => lhs; unfold fitsNS
def fitsP (f : Oct) (x : PM) : Bool := fitsNS f x.N x.S && decide (x.F.length = f.countP isF) && decide (f.countP isT = 1 ∨ x.T = []) && tableOkP x.T

/-- What is written of what fits. -/
def wr : Bool → Oct → Oct × PM → Oct
  | _, [], z => z.1
  | prev, c :: r, z =>
    if c = 115 then wr false r (z.1 ++ octsN 1 (z.2.S.headD []).length ++ z.2.S.headD [], { z.2 with S := z.2.S.tail })
    else if c = 108 then wr false r (z.1 ++ octsN 4 (z.2.S.headD []).length ++ z.2.S.headD [], { z.2 with S := z.2.S.tail })
    else if c = 116 then wr false r (z.1 ++ octsN 4 (rowsR 8 z.2.T).length ++ rowsR 8 z.2.T, z.2)
    else if c = 102 then wr true r (if prev then z.1 else z.1 ++ packGo (z.2.F.take (flagsP (c :: r))) 0 [], { z.2 with F := z.2.F.tail })
    else wr false r (z.1 ++ octsN (c.toNat - 48) (z.2.N.headD 0), { z.2 with N := z.2.N.tail })

theorem packGo_out : ∀ (bs : List Bool) (i : Nat) (o q : Oct), (i % 8 ≠ 0 → q ≠ []) → packGo bs i (o ++ q) = o ++ packGo bs i q
  | [], _, _, _, _ => rfl
  | b :: r, i, o, q, hq => by
    have orl : ∀ (q : Oct) (v : UInt8), q ≠ [] → orLast (o ++ q) v = o ++ orLast q v := by
      intro q v hne
      have hl := List.length_pos_iff.2 hne
      unfold orLast
      simp only [List.length_append]
      rw [List.set_append_right _ _ (by omega), show o.length + q.length - 1 - o.length = q.length - 1 by omega]
      congr 2
      simp only [List.getD_eq_getElem?_getD]
      rw [List.getElem?_append_right (by omega), show o.length + q.length - 1 - o.length = q.length - 1 by omega]
    have ne : ∀ (q : Oct) (v : UInt8), q ≠ [] → orLast q v ≠ [] := by
      intro q v hne e
      have := congrArg List.length e
      simp [orLast] at this
      exact hne this
    unfold packGo
    by_cases h8 : i % 8 = 0
    · rw [if_pos h8, if_pos h8, List.append_assoc]
      cases b
      · simp only [Bool.false_eq_true, if_false]
        exact packGo_out r (i + 1) o (q ++ [0]) (fun _ => by simp)
      · simp only [if_true]
        rw [orl _ _ (by simp)]
        exact packGo_out r (i + 1) o _ (fun _ => ne _ _ (by simp))
    · rw [if_neg h8, if_neg h8]
      cases b
      · simp only [Bool.false_eq_true, if_false]
        exact packGo_out r (i + 1) o q (fun _ => hq h8)
      · simp only [if_true]
        rw [orl _ _ (hq h8)]
        exact packGo_out r (i + 1) o _ (fun _ => ne _ _ (hq h8))
theorem packGo_nil (bs : List Bool) (o : Oct) : packGo bs 0 o = o ++ packGo bs 0 [] := by
  have := packGo_out bs 0 o [] (fun h => absurd rfl h)
  simpa using this

theorem wr_head {c : UInt8} {r : Oct} (hc : c ≠ 102) (z : Oct × PM) : wr true (c :: r) z = wr false (c :: r) z := by
  unfold wr
  repeat' split
  all_goals first | rfl | (rename_i e; exact absurd e hc) | contradiction
theorem wr_run : ∀ (f : Oct) (o : Oct) (x : PM), wr true f (o, x) = wr false (f.drop (flagsP f)) (o, { x with F := x.F.drop (flagsP f) })
  | [], o, x => by simp [flagsP, wr]
  | c :: r, o, x => by
    by_cases hc : c = 102
    · subst hc
      have e : flagsP (102 :: r) = flagsP r + 1 := by simp [flagsP]
      rw [e]
      have ih := wr_run r o { x with F := x.F.tail }
      simp only [List.drop_succ_cons]
      have : wr true (102 :: r) (o, x) = wr true r (o, { x with F := x.F.tail }) := by
        conv => lhs; unfold wr
        simp
      rw [this, ih]
      simp only [List.drop_tail]
    · have e : flagsP (c :: r) = 0 := by simp [flagsP, hc]
      rw [e, wr_head hc]
      simp

theorem fitsNS_run : ∀ (f : Oct) (N : List Nat) (S : List Oct), fitsNS f N S = fitsNS (f.drop (flagsP f)) N S
  | [], _, _ => by simp [flagsP]
  | c :: r, N, S => by
    by_cases hc : c = 102
    · subst hc
      have e : flagsP (102 :: r) = flagsP r + 1 := by simp [flagsP]
      rw [e, List.drop_succ_cons, ← fitsNS_run r N S]
      simp [fitsNS]
    · have e : flagsP (c :: r) = 0 := by simp [flagsP, hc]
      rw [e]; rfl

def finP (z : Oct × PM) : Option Oct := if z.2.N = [] ∧ z.2.S = [] ∧ z.2.F = [] ∧ z.2.T = [] then some z.1 else none
def okP (f : Oct) (x : PM) : Prop := fitsNS f x.N x.S = true ∧ x.F.length = f.countP isF ∧ (f.countP isT = 1 ∨ x.T = []) ∧ tableOkP x.T = true
instance (f : Oct) (x : PM) : Decidable (okP f x) := by unfold okP; infer_instance

theorem tableOk_nil : tableOkP [] = true := by decide +kernel

theorem formW_eq : ∀ (k : Nat) (f : Oct) (o : Oct) (x : PM), f.length < k → (∀ c ∈ f, letterD c) → f.countP isT ≤ 1 → (formW k f (o, x)).bind finP = if okP f x then some (wr false f (o, x)) else none
  | 0, _, _, _, h, _, _ => absurd h (Nat.not_lt_zero _)
  | k + 1, f, o, x, hk, hl, ht => by
    unfold formW
    by_cases e0 : f = []
    · subst e0
      rw [if_pos rfl]
      simp only [Option.bind_some, finP, okP, fitsNS, wr, List.countP_nil, decide_eq_true_eq]
      have : (x.N = [] ∧ x.S = [] ∧ x.F = [] ∧ x.T = []) ↔ ((x.N = [] ∧ x.S = []) ∧ x.F.length = 0 ∧ (0 = 1 ∨ x.T = []) ∧ tableOkP x.T = true) := by
        constructor
        · intro ⟨a, b, c, d⟩; exact ⟨⟨a, b⟩, by rw [c]; rfl, .inr d, by rw [d]; exact tableOk_nil⟩
        · intro ⟨⟨a, b⟩, c, d, e⟩
          rcases d with d | d
          · cases d
          · exact ⟨a, b, List.length_eq_zero_iff.1 c, d⟩
      simp only [this]
    rw [if_neg e0]
    by_cases e1 : 0 < flagsP f
    · rw [if_pos e1]
      have fs := flags_split f
      have hlr : ∀ c ∈ f.drop (flagsP f), letterD c := fun c hc => hl c (List.mem_of_mem_drop hc)
      unfold packW
      dsimp only
      split
      · rename_i hF
        rw [if_neg]
        · rfl
        · intro ⟨_, h2, _⟩
          omega
      · rename_i hF
        simp only [Option.bind_some]
        rw [formW_eq k _ _ _ (by have := flagsP_le f; simp; omega) hlr (by rw [← fs.2.2.1]; exact ht)]
        have eo : okP (f.drop (flagsP f)) { x with F := x.F.drop (flagsP f) } ↔ okP f x := by
          unfold okP
          simp only [List.length_drop]
          rw [← fitsNS_run, ← fs.2.2.1]
          constructor
          · intro ⟨a, b, c⟩; exact ⟨a, by omega, c⟩
          · intro ⟨a, b, c⟩; exact ⟨a, by omega, c⟩
        simp only [eo]
        have ew : wr false f (o, x) = wr false (f.drop (flagsP f)) (packGo (x.F.take (flagsP f)) 0 o, { x with F := x.F.drop (flagsP f) }) := by
          cases f with
          | nil => exact absurd rfl e0
          | cons c r =>
            have hc : c = 102 := by
              by_cases hc : c = 102
              · exact hc
              · simp [flagsP, hc] at e1
            subst hc
            have e : flagsP (102 :: r) = flagsP r + 1 := by simp [flagsP]
            have w1 : wr false (102 :: r) (o, x) = wr true r (o ++ packGo (x.F.take (flagsP (102 :: r))) 0 [], { x with F := x.F.tail }) := by
              conv => lhs; unfold wr
              simp
            rw [w1, wr_run, ← packGo_nil, e]
            simp only [List.drop_succ_cons, List.drop_tail]
        rw [ew]
    · rw [if_neg e1]
      have n102 := flagsP_zero e1 e0
      cases f with
      | nil => exact absurd rfl e0
      | cons c r =>
        simp only [List.getD_cons_zero, List.drop_succ_cons, List.drop_zero] at n102 ⊢
        have hlr : ∀ c ∈ r, letterD c := fun d hd => hl d (List.mem_cons_of_mem _ hd)
        have hc := hl c (List.mem_cons_self ..)
        have ef : isF c = false := by simp [isF, n102]
        simp only [List.countP_cons] at ht
        obtain ⟨N, S, F, T⟩ := x
        unfold oneW
        by_cases k1 : c = 115
        · subst k1
          simp only [if_true]
          cases S with
          | nil => rw [if_neg]; rfl; intro h; simp [okP, fitsNS] at h
          | cons s S' =>
            simp only
            by_cases hs : s.length > 255
            · rw [if_pos hs, if_neg]
              · rfl
              · intro h
                simp [okP, fitsNS] at h
                omega
            · rw [if_neg hs]
              simp only [Option.bind_some]
              rw [formW_eq k r _ _ (by simp at hk; omega) hlr (by omega)]
              have eo : okP (115 :: r) ⟨N, s :: S', F, T⟩ ↔ okP r ⟨N, S', F, T⟩ := by
                have : s.length ≤ 255 := by omega
                simp [okP, fitsNS, List.countP_cons, isF, isT, this]
              simp only [eo]
              have ew : wr false (115 :: r) (o, ⟨N, s :: S', F, T⟩) = wr false r (o ++ octsN 1 s.length ++ s, ⟨N, S', F, T⟩) := by
                conv => lhs; unfold wr
                simp
              rw [ew]
        simp only [if_neg k1]
        by_cases k2 : c = 108
        · subst k2
          simp only [if_true]
          cases S with
          | nil => rw [if_neg]; rfl; intro h; simp [okP, fitsNS] at h
          | cons s S' =>
            simp only [Option.bind_some]
            rw [formW_eq k r _ _ (by simp at hk; omega) hlr (by omega)]
            have eo : okP (108 :: r) ⟨N, s :: S', F, T⟩ ↔ okP r ⟨N, S', F, T⟩ := by
              simp [okP, fitsNS, List.countP_cons, isF, isT]
            simp only [eo]
            have ew : wr false (108 :: r) (o, ⟨N, s :: S', F, T⟩) = wr false r (o ++ octsN 4 s.length ++ s, ⟨N, S', F, T⟩) := by
              conv => lhs; unfold wr
              simp
            rw [ew]
        simp only [if_neg k2]
        by_cases k3 : c = 116
        · subst k3
          simp only [if_true]
          rw [tableP_eq]
          have et : isT 116 = true := rfl
          rw [et, if_pos rfl] at ht
          by_cases hT : tableOkP T = true
          · rw [if_pos hT]
            simp only [Option.bind_some]
            rw [formW_eq k r _ _ (by simp at hk; omega) hlr (by omega)]
            have c0 : r.countP isT = 0 := by omega
            have eo : okP (116 :: r) ⟨N, S, F, T⟩ ↔ okP r ⟨N, S, F, []⟩ := by
              simp [okP, fitsNS, List.countP_cons, isF, isT, hT, tableOk_nil]
              intro _ _
              left
              have : List.countP isT r = 0 := c0
              exact fun a ha => by
                have := List.countP_eq_zero.1 c0 a ha
                simpa [isT] using this
            simp only [eo]
            have ew : wr false (116 :: r) (o, ⟨N, S, F, T⟩) = wr false r (o ++ octsN 4 (rowsR 8 T).length ++ rowsR 8 T, ⟨N, S, F, T⟩) := by
              conv => lhs; unfold wr
              simp
            rw [ew]
            have wT : ∀ (f : Oct) (b : Bool) (o : Oct) (N : List Nat) (S : List Oct) (F : List Bool) (T T' : List PF), f.countP isT = 0 → wr b f (o, ⟨N, S, F, T⟩) = wr b f (o, ⟨N, S, F, T'⟩) := by
              intro f
              induction f with
              | nil => intros; rfl
              | cons c r ih =>
                intro b o N S F T T' h0
                simp only [List.countP_cons] at h0
                have hr : r.countP isT = 0 := by omega
                have hne : ¬ c = 116 := by
                  intro e; subst e
                  rw [show isT 116 = true from rfl, if_pos rfl] at h0
                  omega
                unfold wr
                simp only [if_neg hne]
                repeat' split
                all_goals exact ih _ _ _ _ _ _ _ hr
            rw [wT r false _ N S F T [] c0]
          · rw [if_neg hT]
            rw [if_neg]
            · rfl
            · intro h
              exact hT h.2.2.2
        simp only [if_neg k3]
        have k4 : ¬ (c = 115 ∨ c = 108) := by rintro (e | e); exact k1 e; exact k2 e
        have k5 : ¬ (c = 116 ∨ c = 102) := by rintro (e | e); exact k3 e; exact n102 e
        cases N with
        | nil => rw [if_neg]; rfl; intro h; simp [okP, fitsNS, k1, k2, k3, n102] at h
        | cons v N' =>
          simp only
          by_cases hv : c.toNat - 48 = 8 ∨ v / 256 ^ (c.toNat - 48) = 0
          · rw [if_pos hv]
            simp only [Option.bind_some]
            have et : isT c = false := by simp [isT, k3]
            rw [et] at ht
            rw [formW_eq k r _ _ (by simp at hk; omega) hlr (by simpa using ht)]
            have hvb : (decide (c.toNat - 48 = 8) || decide (v / 256 ^ (c.toNat - 48) = 0)) = true := by simpa using hv
            have eo : okP (c :: r) ⟨v :: N', S, F, T⟩ ↔ okP r ⟨N', S, F, T⟩ := by
              unfold okP
              simp only [List.countP_cons, ef, et, fitsNS, if_neg k4, if_neg k5, hvb, Bool.true_and]
              simp
            simp only [eo]
            have ew : wr false (c :: r) (o, ⟨v :: N', S, F, T⟩) = wr false r (o ++ octsN (c.toNat - 48) v, ⟨N', S, F, T⟩) := by
              conv => lhs; unfold wr
              simp [k1, k2, k3, n102]
            rw [ew]
          · rw [if_neg hv, if_neg]
            · rfl
            · intro h
              have hvb : (decide (c.toNat - 48 = 8) || decide (v / 256 ^ (c.toNat - 48) = 0)) = false := by
                rw [Bool.or_eq_false_iff, decide_eq_false_iff_not, decide_eq_false_iff_not]
                exact ⟨fun e => hv (.inl e), fun e => hv (.inr e)⟩
              have := h.1
              simp only [fitsNS, if_neg k4, if_neg k5, hvb, Bool.false_and] at this
              cases this

theorem okP_fits (f : Oct) (x : PM) : okP f x ↔ fitsP f x = true := by
  unfold okP fitsP
  simp only [Bool.and_eq_true, decide_eq_true_eq]
  constructor
  · intro ⟨a, b, c, d⟩; exact ⟨⟨⟨a, b⟩, c⟩, d⟩
  · intro ⟨⟨⟨a, b⟩, c⟩, d⟩; exact ⟨a, b, c, d⟩
theorem methW_eq {a b : Int} {f : Oct} (x : PM) (hf : formP (a, b) = some f) : methW a b x = if fitsP f x = true then some (wr false f (octsN 2 (nat64 a) ++ octsN 2 (nat64 b), x)) else none := by
  have nf := formP_nice hf
  have := formW_eq (f.length + 1) f (octsN 2 (nat64 a) ++ octsN 2 (nat64 b)) x (by omega) nf.1 nf.2.1
  simp only [okP_fits] at this
  rw [← this]
  unfold methW
  rw [hf]
  simp only
  cases formW (f.length + 1) f (octsN 2 (nat64 a) ++ octsN 2 (nat64 b), x) with
  | none => rfl
  | some z => rfl
end Go.Proofs.Ytpfnfmlibpoleaa.Pr
