/- How many numbers, texts and flags a form asks for. -/
import Derived.Test.YtpfnfmlibpoleaaMadeM
set_option linter.unusedVariables false
set_option linter.unusedSimpArgs false
namespace Go.Proofs.Ytpfnfmlibpoleaa.Pr
open Go Go.Lift Go.Proofs

def isS (c : UInt8) : Bool := decide (c = 115 ∨ c = 108)
def isT (c : UInt8) : Bool := decide (c = 116)
def isF (c : UInt8) : Bool := decide (c = 102)
def isN (c : UInt8) : Bool := decide (¬ (c = 115 ∨ c = 108) ∧ ¬ c = 116 ∧ ¬ c = 102)

theorem flags_split : ∀ f : Oct, f.countP isN = (f.drop (flagsP f)).countP isN ∧ f.countP isS = (f.drop (flagsP f)).countP isS ∧ f.countP isT = (f.drop (flagsP f)).countP isT ∧ f.countP isF = flagsP f + (f.drop (flagsP f)).countP isF
  | [] => by simp [flagsP]
  | c :: t => by
    have ih := flags_split t
    unfold flagsP
    split
    · rename_i e
      subst e
      simp only [List.drop_succ_cons, List.countP_cons, ← ih]
      simp only [isN, isS, isT, isF]
      refine ⟨by simp, by simp, by simp, ?_⟩
      have := ih.2.2.2
      simp
      omega
    · simp

theorem oneW_cnt {c : UInt8} {z z' : Oct × PM} (hc : c ≠ 102) (h : oneW c z = some z') : z.2.N.length = z'.2.N.length + (if isN c then 1 else 0) ∧ z.2.S.length = z'.2.S.length + (if isS c then 1 else 0) ∧ z.2.F = z'.2.F ∧ (isT c = false → z'.2.T = z.2.T) := by
  obtain ⟨o, N, S, F, T⟩ := z
  unfold oneW at h
  simp only at h
  by_cases k1 : c = 115
  · subst k1
    simp only [if_pos] at h
    cases S with
    | nil => cases h
    | cons s r =>
      simp only at h
      split at h
      · cases h
      · cases h; simp [isN, isS, isT]
  rw [if_neg k1] at h
  by_cases k2 : c = 108
  · subst k2
    simp only [if_pos] at h
    cases S with
    | nil => cases h
    | cons s r => cases h; simp [isN, isS, isT]
  rw [if_neg k2] at h
  by_cases k3 : c = 116
  · subst k3
    simp only [if_pos] at h
    cases e : tableP T with
    | none => rw [e] at h; cases h
    | some b => rw [e] at h; cases h; simp [isN, isS, isT]
  rw [if_neg k3] at h
  have en : isN c = true := by simp [isN, k1, k2, k3, hc]
  have es : isS c = false := by simp [isS, k1, k2]
  cases N with
  | nil => cases h
  | cons v r =>
    simp only at h
    split at h
    · cases h; simp [en, es]
    · cases h

theorem formW_cnt : ∀ (k : Nat) (f : Oct) (z z' : Oct × PM), formW k f z = some z' → z.2.N.length = z'.2.N.length + f.countP isN ∧ z.2.S.length = z'.2.S.length + f.countP isS ∧ z.2.F.length = z'.2.F.length + f.countP isF ∧ (f.countP isT = 0 → z'.2.T = z.2.T)
  | 0, _, _, _, h => by cases h
  | k + 1, f, z, z', h => by
    unfold formW at h
    by_cases e0 : f = []
    · rw [if_pos e0] at h; cases h; subst e0; simp
    rw [if_neg e0] at h
    by_cases e1 : 0 < flagsP f
    · rw [if_pos e1] at h
      have fs := flags_split f
      unfold packW at h
      split at h
      · cases h
      · rename_i hl
        simp only [Option.bind_some] at h
        have ih := formW_cnt k _ _ _ h
        simp only [List.length_drop] at ih
        rw [fs.1, fs.2.1, fs.2.2.1, fs.2.2.2]
        refine ⟨ih.1, ih.2.1, by omega, ih.2.2.2⟩
    · rw [if_neg e1] at h
      have n102 := flagsP_zero e1 e0
      cases f with
      | nil => exact absurd rfl e0
      | cons c r =>
        simp only [List.getD_cons_zero, List.drop_succ_cons, List.drop_zero] at h n102
        cases e2 : oneW c z with
        | none => rw [e2] at h; cases h
        | some y =>
          rw [e2] at h
          simp only [Option.bind_some] at h
          have ih := formW_cnt k _ _ _ h
          have o := oneW_cnt n102 e2
          have ef : isF c = false := by simp [isF, n102]
          simp only [List.countP_cons, ef]
          refine ⟨by omega, by omega, by rw [o.2.2.1]; simpa using ih.2.2.1, fun ht => ?_⟩
          have : isT c = false := by
            cases e : isT c
            · rfl
            · rw [e] at ht; simp at ht
          rw [ih.2.2.2 (by omega), o.2.2.2 this]

theorem methW_cnt {a b : Int} {f : Oct} {x : PM} (hf : formP (a, b) = some f) (h : methW a b x ≠ none) : x.N.length = f.countP isN ∧ x.S.length = f.countP isS ∧ x.F.length = f.countP isF ∧ (f.countP isT = 0 → x.T = []) := by
  unfold methW at h
  rw [hf] at h
  simp only at h
  cases e : formW (f.length + 1) f (octsN 2 (nat64 a) ++ octsN 2 (nat64 b), x) with
  | none => rw [e] at h; exact absurd rfl h
  | some z =>
    rw [e] at h
    simp only at h
    have c := formW_cnt _ _ _ _ e
    split at h
    · rename_i g
      rw [g.1, g.2.1, g.2.2.1, g.2.2.2] at c
      simp only [List.length_nil, Nat.zero_add] at c
      exact ⟨c.1, c.2.1, c.2.2.1, fun ht => (c.2.2.2 ht).symm⟩
    · exact absurd rfl h

theorem madeF_cnt (n : List Nat) (s : List Oct) (f : Int) (t : List PF) (tok : Bool) (form : Oct) : (madeF n s f t tok form).N.length = form.countP isN ∧ (madeF n s f t tok form).S.length = form.countP isS ∧ (madeF n s f t tok form).F.length = form.countP isF := by
  unfold madeF
  have : ∀ (form : Oct) (x : PM), (form.foldl (madeOne n s f t tok) x).N.length = x.N.length + form.countP isN ∧ (form.foldl (madeOne n s f t tok) x).S.length = x.S.length + form.countP isS ∧ (form.foldl (madeOne n s f t tok) x).F.length = x.F.length + form.countP isF := by
    intro form
    induction form with
    | nil => intro x; simp
    | cons c r ih =>
      intro x
      have h2 := ih (madeOne n s f t tok x c)
      simp only [List.foldl_cons, List.countP_cons]
      have : (madeOne n s f t tok x c).N.length = x.N.length + (if isN c then 1 else 0) ∧ (madeOne n s f t tok x c).S.length = x.S.length + (if isS c then 1 else 0) ∧ (madeOne n s f t tok x c).F.length = x.F.length + (if isF c then 1 else 0) := by
        unfold madeOne
        by_cases k1 : c = 115 ∨ c = 108
        · have : ¬ c = 102 := by rcases k1 with rfl | rfl <;> decide
          simp [k1, isN, isS, isF, this]
        by_cases k2 : c = 116
        · subst k2
          rw [if_neg (by decide), if_pos rfl]
          split <;> simp [isN, isS, isF]
        by_cases k3 : c = 102
        · subst k3; simp [isN, isS, isF]
        · simp [k1, k2, k3, isN, isS, isF]
      omega
  simpa [noM] using this form noM

theorem madeF_N64 (n : List Nat) (hn : ∀ v ∈ n, v < 18446744073709551616) (s : List Oct) (f : Int) (t : List PF) (tok : Bool) (form : Oct) : (∀ v ∈ (madeF n s f t tok form).N, v < 18446744073709551616) ∧ (∀ v ∈ (madeF n s f t tok form).S, v.length ≤ 255) := by
  unfold madeF
  have : ∀ (form : Oct) (x : PM), (∀ v ∈ x.N, v < 18446744073709551616) → (∀ v ∈ x.S, v.length ≤ 255) → (∀ v ∈ (form.foldl (madeOne n s f t tok) x).N, v < 18446744073709551616) ∧ (∀ v ∈ (form.foldl (madeOne n s f t tok) x).S, v.length ≤ 255) := by
    intro form
    induction form with
    | nil => intro x h1 h2; exact ⟨h1, h2⟩
    | cons c r ih =>
      intro x h1 h2
      refine ih _ ?_ ?_
      · unfold madeOne
        split
        · exact h1
        split
        · split <;> exact h1
        split
        · exact h1
        · intro v hv
          simp only [List.mem_append, List.mem_singleton] at hv
          rcases hv with hv | rfl
          · exact h1 v hv
          · refine Nat.lt_of_le_of_lt (Nat.mod_le _ _) ?_
            by_cases hi : x.N.length < n.length
            · rw [getD_lt _ _ hi]; exact hn _ (List.getElem_mem _)
            · rw [getD_ge _ _ (by omega)]; decide
      · unfold madeOne
        split
        · intro v hv
          simp only [List.mem_append, List.mem_singleton] at hv
          rcases hv with hv | rfl
          · exact h2 v hv
          · simp; omega
        split
        · split <;> exact h2
        split
        · exact h2
        · exact h2
  exact this form noM (by simp [noM]) (by simp [noM])

theorem madeF_T (n : List Nat) (s : List Oct) (f : Int) (t : List PF) (tok : Bool) (form : Oct) : (madeF n s f t tok form).T = if tok ∧ 0 < form.countP isT then t else [] := by
  unfold madeF
  have : ∀ (form : Oct) (x : PM), (form.foldl (madeOne n s f t tok) x).T = if tok ∧ 0 < form.countP isT then t else x.T := by
    intro form
    induction form with
    | nil => intro x; simp
    | cons c r ih =>
      intro x
      simp only [List.foldl_cons, List.countP_cons, ih]
      unfold madeOne
      by_cases k1 : c = 115 ∨ c = 108
      · have : ¬ c = 116 := by rcases k1 with rfl | rfl <;> decide
        simp [k1, isT, this]
      by_cases k2 : c = 116
      · subst k2
        cases tok <;> simp [isT]
      by_cases k3 : c = 102
      · subst k3; simp [isT]
      · simp [k1, k2, k3, isT]
  exact this form noM

theorem tableOkNil {L : List Asr} {K : KT} {h : Heap} {c : Nat} (S : St L h) (hK : ∀ h', St L h' → K (.bool true) h') : CallsH P F.waybillref1_TableOk [.slice none 0 c] K h := by
  refine waybillref1_TableOk.ok ?_
  unfold waybillref1_TableOk.p0
  refine waybillref1_formed.ok ?_
  unfold waybillref1_formed.p0
  refine ifF (by decide) ⟨1, ?_⟩
  unfold waybillref1_formed.L1
  refine ifF (by decide) ⟨_, rfl, fun _ => ?_, fun e => by cases e⟩
  refine waybillref1_weight.ok ?_
  unfold waybillref1_weight.p0
  refine ⟨1, ?_⟩
  unfold waybillref1_weight.L1
  refine ifF (by decide) ?_
  unfold waybillref1_weight.j2
  refine ifF rfl ⟨_, rfl, ?_⟩
  exact ifT' (by decide) (hK h S)
end Go.Proofs.Ytpfnfmlibpoleaa.Pr
