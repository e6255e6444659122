/- The document's tables, plainly: which may be, what they say, what they weigh; and that the program's are the same. -/
import Derived.Test.YtpfnfmlibpoleaaTablW
set_option linter.unusedVariables false
set_option linter.unusedSimpArgs false
namespace Go.Proofs.Ytpfnfmlibpoleaa.Pr
open Go Go.Lift Go.Proofs

def fieldOkP (f : PF) : Bool := decide (1 ≤ f.name.length ∧ f.name.length ≤ 128) &&
  (if f.kind = 116 then decide ((f.n = 0 ∨ f.n = 1) ∧ f.s = [] ∧ f.t = [])
  else if f.kind = 73 then decide (-2147483648 ≤ f.n ∧ f.n < 2147483648 ∧ f.s = [] ∧ f.t = [])
  else if f.kind = 108 then decide (f.s = [] ∧ f.t = [])
  else if f.kind = 83 then decide (f.n = 0 ∧ f.t = [])
  else if f.kind = 70 then decide (f.n = 0 ∧ f.s = [])
  else if f.kind = 86 then decide (f.n = 0 ∧ f.s = [] ∧ f.t = [])
  else false)

def formGo (sub : List PF → Bool) : List PF → List Oct → Bool
  | [], _ => true
  | f :: r, seen => fieldOkP f && (f.kind != 70 || sub f.t) && decide (f.name ∉ seen) && formGo sub r (seen ++ [f.name])
def formedP : Nat → List PF → Bool
  | 0, _ => false
  | d + 1, fs => formGo (formedP d) fs []

def valR (sub : List PF → Oct) (f : PF) : Oct :=
  if f.kind = 116 then octsN 1 (nat64 f.n)
  else if f.kind = 73 then octsN 4 (nat64 f.n)
  else if f.kind = 108 then octsN 8 (nat64 f.n)
  else if f.kind = 83 then octsN 4 f.s.length ++ f.s
  else if f.kind = 70 then octsN 4 (sub f.t).length ++ sub f.t
  else []
def rowR (sub : List PF → Oct) (f : PF) : Oct := octsN 1 f.name.length ++ f.name ++ [f.kind] ++ valR sub f
def rowsR : Nat → List PF → Oct
  | 0, _ => []
  | d + 1, fs => fs.flatMap (rowR (rowsR d))

def wgtGo (sub : List PF → Nat) : List PF → Nat → Nat
  | [], n => n
  | f :: r, n => if n ≤ 2000 then wgtGo sub r (n + 13 + f.name.length + min f.s.length 4000 + sub f.t) else n
def wgtP : Nat → List PF → Nat
  | 0, _ => 0
  | d + 1, fs => wgtGo (wgtP d) fs 0

def tableOkP (fs : List PF) : Bool := formedP 8 fs && decide ((rowsR 8 fs).length ≤ 2000)

/-- How much a table holds. -/
def wtD : Nat → List PF → Nat
  | 0, _ => 0
  | d + 1, fs => (fs.map fun f => 1 + f.name.length + f.s.length + wtD d f.t).sum

theorem valR_len {sub : List PF → Oct} (f : PF) : (valR sub f).length ≤ 8 + f.s.length + (sub f.t).length := by
  unfold valR
  repeat' split
  all_goals simp [octsN_length]
  all_goals omega
theorem rowsR_len : ∀ (d : Nat) (fs : List PF), (rowsR d fs).length ≤ 16 * wtD d fs
  | 0, _ => Nat.zero_le _
  | d + 1, fs => by
    unfold rowsR wtD
    induction fs with
    | nil => simp
    | cons f r ih =>
      have h1 := valR_len (sub := rowsR d) f
      have h2 := rowsR_len d f.t
      simp only [List.flatMap_cons, List.length_append, List.map_cons, List.sum_cons]
      have : (rowR (rowsR d) f).length = 2 + f.name.length + (valR (rowsR d) f).length := by simp [rowR, octsN_length]; omega
      omega
theorem wtD_part {d : Nat} {fs : List PF} {f : PF} (h : f ∈ fs) : 1 + f.name.length + f.s.length + wtD d f.t ≤ wtD (d + 1) fs := by
  show _ ≤ (fs.map fun f => 1 + f.name.length + f.s.length + wtD d f.t).sum
  induction fs with
  | nil => cases h
  | cons x r ih =>
    simp only [List.map_cons, List.sum_cons]
    rcases List.mem_cons.1 h with rfl | h
    · omega
    · have := ih h; omega
theorem wtD_mono : ∀ (d : Nat) (fs : List PF), wtD d fs ≤ wtD (d + 1) fs
  | 0, _ => Nat.zero_le _
  | d + 1, fs => by
    show (fs.map fun f => 1 + f.name.length + f.s.length + wtD d f.t).sum ≤ (fs.map fun f => 1 + f.name.length + f.s.length + wtD (d + 1) f.t).sum
    induction fs with
    | nil => simp
    | cons x r ih =>
      simp only [List.map_cons, List.sum_cons]
      have := wtD_mono d x.t
      omega
theorem wtD_take {d : Nat} (fs : List PF) (i : Nat) : wtD d (fs.take i) ≤ wtD d fs := by
  cases d with
  | zero => simp [wtD]
  | succ d =>
    unfold wtD
    induction fs generalizing i with
    | nil => simp
    | cons x r ih =>
      cases i with
      | zero => simp
      | succ i => simp only [List.take_succ_cons, List.map_cons, List.sum_cons]; have := ih i; omega
theorem rowsR_take {d : Nat} {fs : List PF} {i : Nat} (h : i < fs.length) : rowsR (d + 1) (fs.take (i + 1)) = rowsR (d + 1) (fs.take i) ++ rowR (rowsR d) fs[i] := by
  unfold rowsR
  rw [List.take_succ_eq_append_getElem h, List.flatMap_append]
  simp

theorem formGo_mem {sub : List PF → Bool} : ∀ {fs : List PF} {seen : List Oct}, formGo sub fs seen = true → ∀ f ∈ fs, fieldOkP f = true ∧ (f.kind = 70 → sub f.t = true)
  | [], _, _, f, hf => by cases hf
  | x :: r, seen, h, f, hf => by
    unfold formGo at h
    simp only [Bool.and_eq_true, Bool.or_eq_true, bne_iff_ne, ne_eq] at h
    rcases List.mem_cons.1 hf with rfl | hf
    · exact ⟨h.1.1.1, fun e => h.1.1.2.resolve_left (fun n => n e)⟩
    · exact formGo_mem h.2 f hf

theorem fieldOk_len {f : PF} (h : fieldOkP f = true) : 1 ≤ f.name.length ∧ f.name.length ≤ 128 := by
  unfold fieldOkP at h
  simp only [Bool.and_eq_true, decide_eq_true_eq] at h
  exact h.1

/-- A field's octets, one way and the other. -/
theorem value_eq {d : Nat} (ih : ∀ fs, rowsP d fs = if formedP d fs = true ∧ (rowsR d fs).length ≤ 2000 then some (rowsR d fs) else none) {f : PF} (hn : 1 ≤ f.name.length ∧ f.name.length ≤ 128) :
    (fieldOkP f && (f.kind != 70 || formedP d f.t)) = true ∧ (valR (rowsR d) f).length ≤ 2000 → valueP (rowsP d) f = some (valR (rowsR d) f) := by
  intro ⟨h, hl⟩
  unfold fieldOkP at h
  rw [decide_eq_true hn] at h
  unfold valueP valR at *
  by_cases k1 : f.kind = 116
  · simp only [k1, if_pos] at h hl ⊢
    simp at h
    rw [if_pos ⟨h.2.1, h.2.2, h.1⟩]
    congr 1
    simp only [octsN, octN, oct8, nat64]
    congr 1
    apply UInt8.toNat_inj.1
    simp only [UInt8.toNat_ofNat']
    rcases h.1 with e | e <;> rw [e] <;> rfl
  simp only [if_neg k1] at h hl ⊢
  by_cases k2 : f.kind = 73
  · simp only [k2, if_pos] at h hl ⊢
    simp at h
    rw [if_pos ⟨h.2.2.1, h.2.2.2, by omega, by omega⟩]
  simp only [if_neg k2] at h hl ⊢
  by_cases k3 : f.kind = 108
  · simp only [k3, if_pos] at h hl ⊢
    simp at h
    rw [if_pos h]
  simp only [if_neg k3] at h hl ⊢
  by_cases k4 : f.kind = 83
  · simp only [k4, if_pos] at h hl ⊢
    simp at h
    rw [if_pos ⟨h.1, h.2, by simp [octsN_length] at hl; omega⟩]
  simp only [if_neg k4] at h hl ⊢
  by_cases k5 : f.kind = 70
  · simp only [k5, if_pos] at h hl ⊢
    simp at h
    rw [ih, if_pos ⟨h.2, by simp [octsN_length] at hl; omega⟩]
    simp only
    rw [if_pos h.1]
  simp only [if_neg k5] at h hl ⊢
  by_cases k6 : f.kind = 86
  · simp only [k6, if_pos] at h hl ⊢
    simp at h
    rw [if_pos h]
  · rw [if_neg k6] at h
    simp at h

theorem value_none {d : Nat} (ih : ∀ fs, rowsP d fs = if formedP d fs = true ∧ (rowsR d fs).length ≤ 2000 then some (rowsR d fs) else none) {f : PF} (hn : 1 ≤ f.name.length ∧ f.name.length ≤ 128)
    {b : Oct} (hv : valueP (rowsP d) f = some b) : (fieldOkP f && (f.kind != 70 || formedP d f.t)) = true ∧ b = valR (rowsR d) f := by
  unfold fieldOkP
  rw [decide_eq_true hn]
  unfold valueP at hv
  unfold valR
  by_cases k1 : f.kind = 116
  · simp only [k1, if_pos] at hv ⊢
    split at hv
    · rename_i g
      cases hv
      refine ⟨by simp [g], ?_⟩
      simp only [octsN, octN, oct8, nat64]
      congr 1
      apply UInt8.toNat_inj.1
      simp only [UInt8.toNat_ofNat']
      rcases g.2.2 with e | e <;> rw [e] <;> rfl
    · cases hv
  simp only [if_neg k1] at hv ⊢
  by_cases k2 : f.kind = 73
  · simp only [k2, if_pos] at hv ⊢
    split at hv
    · rename_i g
      cases hv
      exact ⟨by simp [g]; omega, rfl⟩
    · cases hv
  simp only [if_neg k2] at hv ⊢
  by_cases k3 : f.kind = 108
  · simp only [k3, if_pos] at hv ⊢
    split at hv
    · rename_i g
      cases hv
      exact ⟨by simp [g], rfl⟩
    · cases hv
  simp only [if_neg k3] at hv ⊢
  by_cases k4 : f.kind = 83
  · simp only [k4, if_pos] at hv ⊢
    split at hv
    · rename_i g
      cases hv
      exact ⟨by simp [g], rfl⟩
    · cases hv
  simp only [if_neg k4] at hv ⊢
  by_cases k5 : f.kind = 70
  · simp only [k5, if_pos] at hv ⊢
    rw [ih] at hv
    split at hv
    · rename_i b' g
      split at g
      · rename_i g2
        cases g
        split at hv
        · rename_i g3
          cases hv
          exact ⟨by simp [g2, g3], rfl⟩
        · cases hv
      · cases g
    · cases hv
  simp only [if_neg k5] at hv ⊢
  by_cases k6 : f.kind = 86
  · simp only [k6, if_pos] at hv ⊢
    split at hv
    · rename_i g
      cases hv
      exact ⟨by simp [g], by simp⟩
    · cases hv
  · rw [if_neg k6] at hv
    cases hv

theorem goP_eq {d : Nat} (ih : ∀ fs, rowsP d fs = if formedP d fs = true ∧ (rowsR d fs).length ≤ 2000 then some (rowsR d fs) else none) : ∀ (fs : List PF) (seen : List Oct) (out : Oct), out.length ≤ 2000 →
    goP (valueP (rowsP d)) fs seen out = if formGo (formedP d) fs seen = true ∧ (out ++ fs.flatMap (rowR (rowsR d))).length ≤ 2000 then some (out ++ fs.flatMap (rowR (rowsR d))) else none
  | [], seen, out, ho => by simp [goP, formGo, ho]
  | f :: r, seen, out, ho => by
    unfold goP formGo
    simp only [List.flatMap_cons]
    have er : ∀ x : Oct, UInt8.ofNat f.name.length :: f.name ++ f.kind :: x = octsN 1 f.name.length ++ f.name ++ [f.kind] ++ x := by
      intro x
      have : octsN 1 f.name.length = [UInt8.ofNat f.name.length] := by
        simp only [octsN, octN, Nat.pow_zero, Nat.div_one]
      rw [this]; simp
    cases hv : valueP (rowsP d) f with
    | none =>
      simp only
      rw [if_neg]
      rintro ⟨h1, h2⟩
      simp only [Bool.and_eq_true] at h1
      have hn := fieldOk_len h1.1.1.1
      have := value_eq ih hn ⟨by simp only [Bool.and_eq_true]; exact h1.1.1, by
        have : (valR (rowsR d) f).length ≤ (rowR (rowsR d) f).length := by simp [rowR]; omega
        simp only [List.length_append] at h2
        omega⟩
      rw [hv] at this
      cases this
    | some b =>
      simp only
      by_cases hn : 1 ≤ f.name.length ∧ f.name.length ≤ 128
      · obtain ⟨g1, rfl⟩ := value_none ih hn hv
        rw [er]
        have : octsN 1 f.name.length ++ f.name ++ [f.kind] ++ valR (rowsR d) f = rowR (rowsR d) f := rfl
        rw [this]
        by_cases hs : f.name ∈ seen
        · rw [if_pos (.inl hs), if_neg]
          rintro ⟨h1, h2⟩
          simp only [Bool.and_eq_true, decide_eq_true_eq] at h1
          exact h1.1.2 hs
        · rw [if_neg (by rintro (e | e | e); exact hs e; rw [e] at hn; simp at hn; omega)]
          by_cases hl : (out ++ rowR (rowsR d) f).length > 2000
          · rw [if_pos hl, if_neg]
            rintro ⟨h1, h2⟩
            simp only [List.length_append] at h2 hl
            omega
          · rw [if_neg hl, goP_eq ih r _ _ (by omega), List.append_assoc, g1, decide_eq_true hs]
            simp only [Bool.true_and]
      · rw [if_pos]
        · rw [if_neg]
          rintro ⟨h1, h2⟩
          simp only [Bool.and_eq_true] at h1
          exact hn (fieldOk_len h1.1.1.1)
        · by_cases e : f.name = []
          · exact .inr (.inl e)
          · have := List.length_pos_iff.2 e
            exact .inr (.inr (by omega))

theorem formGo_len {sub : List PF → Bool} {sr : List PF → Oct} : ∀ {fs : List PF} {seen : List Oct}, formGo sub fs seen = true → 3 * fs.length ≤ (fs.flatMap (rowR sr)).length
  | [], _, _ => by simp
  | f :: r, seen, h => by
    unfold formGo at h
    simp only [Bool.and_eq_true] at h
    have ih := formGo_len (sr := sr) h.2
    have := fieldOk_len h.1.1.1
    simp only [List.flatMap_cons, List.length_append, List.length_cons]
    have : 3 ≤ (rowR sr f).length := by simp [rowR, octsN_length]; omega
    omega

theorem rowsP_eq : ∀ (d : Nat) (fs : List PF), rowsP d fs = if formedP d fs = true ∧ (rowsR d fs).length ≤ 2000 then some (rowsR d fs) else none
  | 0, _ => by simp [rowsP, formedP]
  | d + 1, fs => by
    unfold rowsP
    have g := goP_eq (rowsP_eq d) fs [] [] (by decide)
    simp only [List.nil_append] at g
    rw [g]
    show _ = if formGo (formedP d) fs [] = true ∧ (fs.flatMap (rowR (rowsR d))).length ≤ 2000 then some (fs.flatMap (rowR (rowsR d))) else none
    by_cases hl : fs.length > 2000
    · rw [if_pos hl, if_neg]
      rintro ⟨h1, h2⟩
      have := formGo_len (sr := rowsR d) h1
      omega
    · rw [if_neg hl]
theorem tableP_eq (fs : List PF) : tableP fs = if tableOkP fs = true then some (rowsR 8 fs) else none := by
  unfold tableP tableOkP
  rw [rowsP_eq]
  simp only [Bool.and_eq_true, decide_eq_true_eq]
theorem tableOk_isSome (fs : List PF) : (tableP fs).isSome = tableOkP fs := by
  rw [tableP_eq]
  cases tableOkP fs <;> rfl

theorem wgtGo_ge (sub : List PF → Nat) : ∀ (fs : List PF) (n : Nat), n ≤ wgtGo sub fs n
  | [], n => Nat.le_refl _
  | f :: r, n => by
    unfold wgtGo
    split
    · have := wgtGo_ge sub r (n + 13 + f.name.length + min f.s.length 4000 + sub f.t); omega
    · exact Nat.le_refl _
theorem rows_wgt : ∀ (d : Nat) (fs : List PF), formedP d fs = true → wgtP d fs ≤ 1900 → (rowsR d fs).length ≤ wgtP d fs
  | 0, _, h, _ => by cases h
  | d + 1, fs, h, hw => by
    have hm := formGo_mem (show formGo (formedP d) fs [] = true from h)
    clear h
    unfold wgtP at *
    unfold rowsR
    have : ∀ (fs : List PF) (n : Nat), (∀ f ∈ fs, fieldOkP f = true ∧ (f.kind = 70 → formedP d f.t = true)) → wgtGo (wgtP d) fs n ≤ 1900 → n + (fs.flatMap (rowR (rowsR d))).length ≤ wgtGo (wgtP d) fs n := by
      intro fs
      induction fs with
      | nil => intro n _ _; simp [wgtGo]
      | cons f r ih =>
        intro n hm hw
        have hn : n ≤ 2000 := by have := wgtGo_ge (wgtP d) (f :: r) n; omega
        unfold wgtGo at hw ⊢
        rw [if_pos hn] at hw ⊢
        have i := ih _ (fun g hg => hm g (List.mem_cons_of_mem _ hg)) hw
        have ge := wgtGo_ge (wgtP d) r (n + 13 + f.name.length + min f.s.length 4000 + wgtP d f.t)
        simp only [List.flatMap_cons, List.length_append]
        have hf := hm f (List.mem_cons_self ..)
        have : (rowR (rowsR d) f).length ≤ 13 + f.name.length + min f.s.length 4000 + wgtP d f.t := by
          have : (valR (rowsR d) f).length ≤ 11 + min f.s.length 4000 + wgtP d f.t := by
            unfold valR
            by_cases k1 : f.kind = 116
            · rw [if_pos k1]; simp [octsN_length]; omega
            rw [if_neg k1]
            by_cases k2 : f.kind = 73
            · rw [if_pos k2]; simp [octsN_length]; omega
            rw [if_neg k2]
            by_cases k3 : f.kind = 108
            · rw [if_pos k3]; simp [octsN_length]; omega
            rw [if_neg k3]
            by_cases k4 : f.kind = 83
            · rw [if_pos k4]; simp [octsN_length]; omega
            rw [if_neg k4]
            by_cases k5 : f.kind = 70
            · rw [if_pos k5]
              have := rows_wgt d f.t (hf.2 k5) (by omega)
              simp [octsN_length]
              omega
            · rw [if_neg k5]; simp
          simp [rowR, octsN_length]
          omega
        omega
    have := this fs 0 hm hw
    omega
theorem tableOk_wgt (fs : List PF) : tableOkP fs = (formedP 8 fs && (decide (wgtP 8 fs ≤ 1900) || decide ((rowsR 8 fs).length ≤ 2000))) := by
  unfold tableOkP
  cases h : formedP 8 fs with
  | false => rfl
  | true =>
    simp only [Bool.true_and]
    by_cases hw : wgtP 8 fs ≤ 1900
    · rw [decide_eq_true hw, Bool.true_or, decide_eq_true]
      have := rows_wgt 8 fs h hw
      omega
    · rw [decide_eq_false hw, Bool.false_or]
end Go.Proofs.Ytpfnfmlibpoleaa.Pr
