/- Words of keys, patterns, and what matches: plain laws over rows of octets; no program in sight. -/
namespace Go.Proofs.YtpfnfmlibpoleaaDoor.Pl

abbrev Wd := List UInt8

def wordsL : Wd → List Wd
  | [] => [[]]
  | c :: t => if c = 46 then [] :: wordsL t else match wordsL t with
    | [] => [[c]]
    | w :: ws => (c :: w) :: ws

theorem wordsL_ne (s : Wd) : wordsL s ≠ [] := by
  cases s with
  | nil => simp [wordsL]
  | cons c t => unfold wordsL; split; simp; split <;> simp

theorem wordsL_dot (b : Wd) : wordsL (46 :: b) = [] :: wordsL b := by simp [wordsL]

theorem wordsL_cons {c : UInt8} (hc : c ≠ 46) {t w : Wd} {ws : List Wd} (h : wordsL t = w :: ws) : wordsL (c :: t) = (c :: w) :: ws := by rw [wordsL, if_neg hc, h]

theorem wordsL_append : ∀ a b : Wd, wordsL (a ++ 46 :: b) = wordsL a ++ wordsL b
  | [], b => by simp [wordsL]
  | c :: t, b => by
    have ih := wordsL_append t b
    simp only [List.cons_append, wordsL, ih]
    by_cases hc : c = 46
    · simp [hc]
    · rw [if_neg hc, if_neg hc]
      have := wordsL_ne t
      cases ht : wordsL t with
      | nil => exact absurd ht this
      | cons w ws => simp

theorem wordsL_plain : ∀ s : Wd, 46 ∉ s → wordsL s = [s]
  | [], _ => rfl
  | c :: t, h => by
    simp only [List.mem_cons, not_or] at h
    rw [wordsL, if_neg (fun e => h.1 e.symm), wordsL_plain t h.2]

def joinL : List Wd → Wd
  | [] => []
  | [w] => w
  | w :: ws => w ++ 46 :: joinL ws

theorem joinL_cons (w : Wd) {ws : List Wd} (h : ws ≠ []) : joinL (w :: ws) = w ++ 46 :: joinL ws := by
  cases ws with
  | nil => exact absurd rfl h
  | cons => rfl

theorem join_words : ∀ s : Wd, joinL (wordsL s) = s
  | [] => rfl
  | c :: t => by
    have ih := join_words t
    have hn := wordsL_ne t
    unfold wordsL
    split
    · rename_i hc
      rw [joinL_cons _ hn, ih, hc]; rfl
    · cases ht : wordsL t with
      | nil => exact absurd ht hn
      | cons w ws =>
        simp only
        cases ws with
        | nil => rw [ht] at ih; simp only [joinL] at ih ⊢; rw [ih]
        | cons x xs =>
          rw [ht, joinL_cons _ (by simp)] at ih
          rw [joinL_cons _ (by simp), List.cons_append, ih]

theorem words_inj {a b : Wd} (h : wordsL a = wordsL b) : a = b := by rw [← join_words a, h, join_words]

theorem words_plain : ∀ (s : Wd), ∀ w ∈ wordsL s, 46 ∉ w
  | [] => by simp [wordsL]
  | c :: t => by
    have ih := words_plain t
    unfold wordsL
    split
    · intro w hw
      simp only [List.mem_cons] at hw
      rcases hw with rfl | hw
      · simp
      · exact ih w hw
    · rename_i hc
      have hn := wordsL_ne t
      cases ht : wordsL t with
      | nil => exact absurd ht hn
      | cons x xs =>
        rw [ht] at ih
        intro w hw
        simp only [List.mem_cons] at hw
        rcases hw with rfl | hw
        · simp only [List.mem_cons, not_or]
          exact ⟨fun e => hc e.symm, ih x (by simp)⟩
        · exact ih w (by simp [hw])

theorem words_sub : ∀ (s : Wd), ∀ w ∈ wordsL s, ∀ c ∈ w, c ∈ s
  | [] => by simp [wordsL]
  | d :: t => by
    have ih := words_sub t
    unfold wordsL
    split
    · intro w hw c hc
      simp only [List.mem_cons] at hw
      rcases hw with rfl | hw
      · simp at hc
      · exact List.mem_cons_of_mem _ (ih w hw c hc)
    · have hn := wordsL_ne t
      cases ht : wordsL t with
      | nil => exact absurd ht hn
      | cons x xs =>
        rw [ht] at ih
        intro w hw c hc
        simp only [List.mem_cons] at hw
        rcases hw with rfl | hw
        · simp only [List.mem_cons] at hc
          rcases hc with rfl | hc
          · simp
          · exact List.mem_cons_of_mem _ (ih x (by simp) c hc)
        · exact List.mem_cons_of_mem _ (ih w (by simp [hw]) c hc)

theorem words_length : ∀ s : Wd, (wordsL s).length = s.count 46 + 1
  | [] => rfl
  | c :: t => by
    have ih := words_length t
    unfold wordsL
    split
    · rename_i hc
      simp [ih, hc]
    · rename_i hc
      have hn := wordsL_ne t
      cases ht : wordsL t with
      | nil => exact absurd ht hn
      | cons x xs =>
        rw [ht] at ih
        rw [List.count_cons_of_ne (by simpa using hc)]
        simpa using ih

/-! ### What matches -/

def sfx : List Wd → List (List Wd)
  | [] => [[]]
  | k :: ks => (k :: ks) :: sfx ks

theorem mem_sfx {l : List Wd} : ∀ {ks : List Wd}, l ∈ sfx ks ↔ ∃ u, ks = u ++ l
  | [] => by
    simp only [sfx, List.mem_singleton]
    constructor
    · rintro rfl; exact ⟨[], rfl⟩
    · rintro ⟨u, h⟩
      have := List.append_eq_nil_iff.1 h.symm
      exact this.2
  | k :: ks => by
    simp only [sfx, List.mem_cons, mem_sfx (ks := ks)]
    constructor
    · rintro (rfl | ⟨u, h⟩)
      · exact ⟨[], rfl⟩
      · exact ⟨k :: u, by rw [h]; rfl⟩
    · rintro ⟨u, h⟩
      cases u with
      | nil => exact .inl h.symm
      | cons x u =>
        simp only [List.cons_append, List.cons.injEq] at h
        exact .inr ⟨u, h.2⟩

def matchW : List Wd → List Wd → Bool
  | [], ks => ks.isEmpty
  | p :: ps, ks => if p = [35] then (sfx ks).any (matchW ps) else match ks with
    | [] => false
    | k :: ks => (p == [42] || p == k) && matchW ps ks

theorem matchW_hash {ps ks : List Wd} : matchW ([35] :: ps) ks = true ↔ ∃ u v, ks = u ++ v ∧ matchW ps v = true := by
  have e : matchW ([35] :: ps) ks = (sfx ks).any (matchW ps) := by rw [matchW.eq_def]; simp
  rw [e, List.any_eq_true]
  constructor
  · rintro ⟨l, h1, h2⟩
    obtain ⟨u, h⟩ := mem_sfx.1 h1
    exact ⟨u, l, h, h2⟩
  · rintro ⟨u, v, h1, h2⟩
    exact ⟨v, mem_sfx.2 ⟨u, h1⟩, h2⟩

theorem matchW_cons {p : Wd} (hp : p ≠ [35]) {ps : List Wd} {k : Wd} {ks : List Wd} : matchW (p :: ps) (k :: ks) = ((p == [42] || p == k) && matchW ps ks) := by
  rw [matchW, if_neg hp]

theorem matchW_end {p : Wd} (hp : p ≠ [35]) {ps : List Wd} : matchW (p :: ps) [] = false := by
  rw [matchW, if_neg hp]

theorem matchW_nil {ks : List Wd} : matchW [] ks = true ↔ ks = [] := by
  unfold matchW
  simp

theorem matchW_append : ∀ {ps qs ks : List Wd}, matchW (ps ++ qs) ks = true ↔ ∃ u v, ks = u ++ v ∧ matchW ps u = true ∧ matchW qs v = true
  | [], qs, ks => by
    simp only [List.nil_append, matchW_nil]
    constructor
    · intro h; exact ⟨[], ks, rfl, rfl, h⟩
    · rintro ⟨u, v, rfl, rfl, h⟩; exact h
  | p :: ps, qs, ks => by
    rw [List.cons_append]
    by_cases hp : p = [35]
    · subst hp
      rw [matchW_hash]
      constructor
      · rintro ⟨u, v, rfl, h⟩
        obtain ⟨u', v', rfl, h1, h2⟩ := matchW_append.1 h
        exact ⟨u ++ u', v', by simp, matchW_hash.2 ⟨u, u', rfl, h1⟩, h2⟩
      · rintro ⟨u, v, rfl, h1, h2⟩
        obtain ⟨u', v', rfl, h3⟩ := matchW_hash.1 h1
        exact ⟨u', v' ++ v, by simp, matchW_append.2 ⟨v', v, rfl, h3, h2⟩⟩
    · cases ks with
      | nil =>
        rw [matchW_end hp]
        constructor
        · intro h; cases h
        · rintro ⟨u, v, h, h1, h2⟩
          have := (List.append_eq_nil_iff.1 h.symm).1
          subst this
          rw [matchW_end hp] at h1
          exact h1
      | cons k ks =>
        rw [matchW_cons hp, Bool.and_eq_true, matchW_append]
        constructor
        · rintro ⟨hk, u, v, rfl, h1, h2⟩
          exact ⟨k :: u, v, rfl, by rw [matchW_cons hp, hk, h1]; rfl, h2⟩
        · rintro ⟨u, v, h, h1, h2⟩
          cases u with
          | nil => rw [matchW_end hp] at h1; cases h1
          | cons x u =>
            simp only [List.cons_append, List.cons.injEq] at h
            obtain ⟨rfl, rfl⟩ := h
            rw [matchW_cons hp, Bool.and_eq_true] at h1
            exact ⟨h1.1, u, v, rfl, h1.2, h2⟩

theorem matchW_hash1 (ks : List Wd) : matchW [[35]] ks = true := matchW_hash.2 ⟨ks, [], by simp, rfl⟩
theorem matchW_hash2 (ps ks : List Wd) : matchW ([35] :: [35] :: ps) ks = matchW ([35] :: ps) ks := by
  rw [Bool.eq_iff_iff, matchW_hash]
  constructor
  · rintro ⟨u, v, rfl, h⟩
    obtain ⟨u', v', rfl, h'⟩ := matchW_hash.1 h
    exact matchW_hash.2 ⟨u ++ u', v', by simp, h'⟩
  · intro h; exact ⟨[], ks, rfl, h⟩
theorem matchW_ends2 (ps ks : List Wd) : matchW (ps ++ [[35], [35]]) ks = matchW (ps ++ [[35]]) ks := by
  rw [Bool.eq_iff_iff, matchW_append, matchW_append]
  simp only [matchW_hash2]

theorem matchW_snoc {x : Wd} (hx : x ≠ [35]) {ps ks : List Wd} : matchW (ps ++ [x]) ks = true ↔ ∃ u y, ks = u ++ [y] ∧ (x = [42] ∨ x = y) ∧ matchW ps u = true := by
  rw [matchW_append]
  constructor
  · rintro ⟨u, v, rfl, h1, h2⟩
    cases v with
    | nil => rw [matchW_end hx] at h2; cases h2
    | cons y v =>
      rw [matchW_cons hx] at h2
      simp only [Bool.and_eq_true, Bool.or_eq_true, beq_iff_eq, matchW_nil] at h2
      obtain ⟨h2, rfl⟩ := h2
      exact ⟨u, y, rfl, h2, h1⟩
  · rintro ⟨u, y, rfl, h1, h2⟩
    refine ⟨u, [y], rfl, h2, ?_⟩
    rw [matchW_cons hx]
    simp only [Bool.and_eq_true, Bool.or_eq_true, beq_iff_eq, matchW_nil]
    exact ⟨h1, trivial⟩

theorem matchW_last {x y : Wd} (hx : x ≠ [35]) (h : x = [42] ∨ x = y) (ps ks : List Wd) : matchW (ps ++ [x]) (ks ++ [y]) = matchW ps ks := by
  rw [Bool.eq_iff_iff, matchW_snoc hx]
  constructor
  · rintro ⟨u, z, h1, _, h2⟩
    obtain ⟨rfl, _⟩ := List.append_inj' h1 rfl
    exact h2
  · intro h2; exact ⟨ks, y, rfl, h, h2⟩

theorem matchW_self : ∀ {ws : List Wd}, (∀ w ∈ ws, w ≠ [35]) → matchW ws ws = true
  | [], _ => rfl
  | w :: ws, h => by
    rw [matchW_cons (h w (by simp)), matchW_self fun x hx => h x (by simp [hx])]
    simp

/-! ### The row of what is reached -/

def hit (p k : Wd) : Bool := p == [42] || p == k

/-- The row of the next pattern word, out of the row so far. -/
def stepW (p : Wd) (ks : List Wd) (at' : Nat → Bool) (i : Nat) : Bool :=
  if p = [35] then (List.range (i + 1)).any at' else match i with
    | 0 => false
    | i + 1 => at' i && match ks[i]? with
      | some k => hit p k
      | none => false

def rowOf : List Wd → List Wd → (Nat → Bool) → Nat → Bool
  | [], _, r => r
  | p :: ps, ks, r => rowOf ps ks (stepW p ks r)

def goes (ks : List Wd) (ps : List Wd) (r : Nat → Bool) : Prop := ∃ i, i ≤ ks.length ∧ r i = true ∧ matchW ps (ks.drop i) = true

theorem goes_step (p : Wd) (ps ks : List Wd) (r : Nat → Bool) : goes ks ps (stepW p ks r) ↔ goes ks (p :: ps) r := by
  unfold goes stepW
  by_cases hp : p = [35]
  · subst hp
    simp only [if_true]
    constructor
    · rintro ⟨i, hi, h1, h2⟩
      obtain ⟨j, hj, h3⟩ := List.any_eq_true.1 h1
      have hj := List.mem_range.1 hj
      refine ⟨j, by omega, h3, matchW_hash.2 ⟨(ks.drop j).take (i - j), ks.drop i, ?_, h2⟩⟩
      conv => lhs; rw [← List.take_append_drop (i - j) (ks.drop j)]
      rw [List.drop_drop]
      congr 2; omega
    · rintro ⟨i, hi, h1, h2⟩
      obtain ⟨u, v, h3, h4⟩ := matchW_hash.1 h2
      have hl : ks.length - i = u.length + v.length := by have := congrArg List.length h3; simpa using this
      refine ⟨i + u.length, by omega, List.any_eq_true.2 ⟨i, List.mem_range.2 (by omega), h1⟩, ?_⟩
      rw [← List.drop_drop, h3]
      simpa using h4
  · simp only [if_neg hp]
    constructor
    · rintro ⟨i, hi, h1, h2⟩
      cases i with
      | zero => simp at h1
      | succ i =>
        have hlt : i < ks.length := by omega
        simp only [List.getElem?_eq_getElem hlt, Bool.and_eq_true] at h1
        refine ⟨i, by omega, h1.1, ?_⟩
        rw [List.drop_eq_getElem_cons hlt, matchW_cons hp, h2]
        simpa [hit] using h1.2
    · rintro ⟨i, hi, h1, h2⟩
      rcases Nat.lt_or_ge i ks.length with hlt | hge
      · rw [List.drop_eq_getElem_cons hlt, matchW_cons hp, Bool.and_eq_true] at h2
        refine ⟨i + 1, by omega, ?_, h2.2⟩
        simp only [List.getElem?_eq_getElem hlt, h1, Bool.true_and]
        exact h2.1
      · rw [List.drop_eq_nil_of_le hge, matchW_end hp] at h2
        cases h2

theorem goes_nil (ks : List Wd) (r : Nat → Bool) : goes ks [] r ↔ r ks.length = true := by
  unfold goes
  simp only [matchW_nil, List.drop_eq_nil_iff]
  constructor
  · rintro ⟨i, h1, h2, h3⟩
    rwa [Nat.le_antisymm h3 h1]
  · intro h; exact ⟨_, Nat.le_refl _, h, Nat.le_refl _⟩

theorem rowOf_goes : ∀ (ps ks : List Wd) (r : Nat → Bool), rowOf ps ks r ks.length = true ↔ goes ks ps r
  | [], ks, r => (goes_nil ks r).symm
  | p :: ps, ks, r => by rw [rowOf, rowOf_goes ps ks, goes_step]

theorem rowOf_match (ps ks : List Wd) : rowOf ps ks (fun i => i == 0) ks.length = matchW ps ks := by
  rw [Bool.eq_iff_iff, rowOf_goes]
  unfold goes
  constructor
  · rintro ⟨i, _, h1, h2⟩
    have : i = 0 := by simpa using h1
    subst this
    simpa using h2
  · intro h; exact ⟨0, Nat.zero_le _, rfl, by simpa using h⟩

end Go.Proofs.YtpfnfmlibpoleaaDoor.Pl
