/- Match, of the program and of the document: both answer by the plain law; for any texts that are not great. -/
import Derived.Test.YtpfnfmlibpoleaaDoorTopcWords
set_option linter.unusedVariables false
namespace Go.Proofs.YtpfnfmlibpoleaaDoor.Pr
open Go Go.Lift Go.Proofs Pl

def rowB (n : Nat) (f : Nat → Bool) : List Bool := (List.range (n + 1)).map f

theorem rowB_get {n : Nat} {f : Nat → Bool} {k : Nat} (hk : k ≤ n) : (rowB n f)[k]? = some (f k) := by
  rw [rowB, List.getElem?_map, List.getElem?_range (by omega)]; rfl

theorem rowB_ext {n : Nat} {f g : Nat → Bool} (h : ∀ j, j ≤ n → f j = g j) : rowB n f = rowB n g := by
  apply List.map_congr_left
  intro j hj
  exact h j (by have := List.mem_range.1 hj; omega)

theorem rowB_set {n : Nat} {f g : Nat → Bool} {k : Nat} {v : Bool} (hg : ∀ j, j ≤ n → g j = if j = k then v else f j) : (rowB n f).set k v = rowB n g := by
  apply List.ext_getElem?
  intro j
  rw [List.getElem?_set]
  by_cases hj : j ≤ n
  · rw [rowB_get hj, rowB_get hj, hg j hj]
    by_cases e : k = j
    · subst e; simp [rowB]; omega
    · rw [if_neg e, if_neg (fun x => e x.symm)]
  · have e1 : (rowB n f)[j]? = none := by simp [rowB]; omega
    have e2 : (rowB n g)[j]? = none := by simp [rowB]; omega
    rw [e1, e2]
    split
    · rw [if_neg (by simp [rowB]; omega)]
    · rfl

theorem put_row {n : Nat} {f g : Nat → Bool} {h : Heap} {p : OA} {l c : Nat} (m : Own 1 h p l c ((rowB n f).map .bool)) {i : Int} {k : Nat} (hi : i = k) (hk : k ≤ n) {v : Bool} (hg : ∀ j, j ≤ n → g j = if j = k then v else f j) {F : Heap → Prop}
    (hF : ∀ h', Own 1 h' p l c ((rowB n g).map .bool) → Keeps (fun k => ∃ a, p = some a ∧ a.block = k) h h' → F h') :
    ∃ a, p = some a ∧ (0 : Int) ≤ i ∧ i < ((l : Nat) : Int) ∧ ∃ h', stC h (Addr.add a (Int.toNat i * 1)) 0 [.bool v] = some h' ∧ F h' := by
  refine put m hi (by simp [rowB]; omega) rfl fun h' h1 h2 _ => hF h' ?_ h2
  have := List.map_set (f := Value.bool) (l := rowB n f) (i := k) (a := v)
  rw [← this, rowB_set hg] at h1
  exact h1

def cur (p : Wd) (ks : List Wd) (r : Nat → Bool) (i j : Nat) : Bool := decide (j < if p = [35] then i else i + 1) && stepW p ks r j

theorem stepW_hash {ks : List Wd} {r : Nat → Bool} (i : Nat) : stepW [35] ks r i = ((List.range i).any r || r i) := by
  unfold stepW
  rw [if_pos rfl, List.range_succ, List.any_append]
  simp

theorem stepW_hash_succ {ks : List Wd} {r : Nat → Bool} (i : Nat) : stepW [35] ks r (i + 1) = (stepW [35] ks r i || r (i + 1)) := by
  rw [stepW_hash, stepW_hash, List.range_succ, List.any_append]
  simp

theorem cur_hash {ks : List Wd} {r : Nat → Bool} {i : Nat} {v : Bool} (hv : v = stepW [35] ks r i) : ∀ j, cur [35] ks r (i + 1) j = if j = i then v else cur [35] ks r i j := by
  intro j
  unfold cur
  simp only [if_true]
  by_cases hj : j = i
  · subst hj; simp [hv]
  · rw [if_neg hj]
    have : (decide (j < i + 1)) = decide (j < i) := by rw [decide_eq_decide]; omega
    rw [this]

theorem cur_word {p : Wd} (hp : p ≠ [35]) {ks : List Wd} {r : Nat → Bool} {i : Nat} {v : Bool} (hv : v = stepW p ks r (i + 1)) : ∀ j, cur p ks r (i + 1) j = if j = i + 1 then v else cur p ks r i j := by
  intro j
  unfold cur
  simp only [if_neg hp]
  by_cases hj : j = i + 1
  · subst hj; simp [hv]
  · rw [if_neg hj]
    have : (decide (j < i + 1 + 1)) = decide (j < i + 1) := by rw [decide_eq_decide]; omega
    rw [this]

theorem cur_same {p : Wd} (hp : p ≠ [35]) {ks : List Wd} {r : Nat → Bool} {i : Nat} (h : stepW p ks r (i + 1) = false) : ∀ j, cur p ks r (i + 1) j = cur p ks r i j := by
  intro j
  rw [cur_word hp h.symm]
  split
  · rename_i e; subst e; unfold cur; simp [hp]
  · rfl

theorem cur_end (p : Wd) (ks : List Wd) (r : Nat → Bool) {n : Nat} : ∀ j, j ≤ n → cur p ks r (n + 1) j = stepW p ks r j := by
  intro j hj
  unfold cur
  rw [decide_eq_true (by split <;> omega), Bool.true_and]

theorem cur_zero (p : Wd) (ks : List Wd) (r : Nat → Bool) : ∀ j, cur p ks r 0 j = false := by
  intro j
  unfold cur
  by_cases hp : p = [35]
  · simp [hp]
  · simp only [if_neg hp]
    by_cases hj : j = 0
    · subst hj; unfold stepW; simp [hp]
    · simp; omega

theorem step_word {p : Wd} (hp : p ≠ [35]) {ks : List Wd} {r : Nat → Bool} {i : Nat} {k : Wd} (hk : ks[i]? = some k) : stepW p ks r (i + 1) = (r i && hit p k) := by
  unfold stepW
  simp [hp, hk]
theorem step_over {p : Wd} (hp : p ≠ [35]) {ks : List Wd} {r : Nat → Bool} {i : Nat} (hk : ks.length ≤ i) : stepW p ks r (i + 1) = false := by
  unfold stepW
  simp [hp, hk]

theorem fresh_keep {h1 h h' : Heap} {q : OA} (hq : q = some (top h1)) (k : Kept h1 h) (k2 : Keeps (fun b => ∃ a, q = some a ∧ a.block = b) h h') : Kept h1 h' := by
  refine k.trans' k2 fun b hb ⟨a, e1, e2⟩ => ?_
  rw [hq] at e1
  cases e1
  rw [top_block] at e2
  omega

theorem wrap_succ {i : Nat} (hi : i < 9223372036854775807) : IntKind.i64.wrap ((i : Int) + 1) = ((i + 1 : Nat) : Int) := by rw [wrapI (by omega) (by omega)]; omega
theorem wrap_pred {i : Nat} (h0 : 0 < i) (hi : i < 9223372036854775807) : IntKind.i64.wrap ((i : Int) - 1) = ((i - 1 : Nat) : Int) := by rw [wrapI (by omega) (by omega)]; omega

/-- The program's inner loop. -/
theorem match_in {K : KT} {R2 : OA → Nat → Nat → OA → Nat → Nat → OA → Nat → Nat → Int → Int → Heap → Prop} {ks : List Wd} {r : Nat → Bool} {p : Wd} {n : Nat} (hn : n = ks.length) (hb : n < 1000000) {h1 : Heap} {p5 p9 p21 p31 : OA} {l5 c5 l21 c21 c31 : Nat} {t22 t23 : Int}
    (s5 : Sl 1 h1 p5 l5 (ks.map strV)) (s31 : Sl 1 h1 p31 (n + 1) ((rowB n r).map .bool)) (h9 : p9 = some (top h1))
    (hR : ∀ h', Own 1 h' p9 (n + 1) (n + 1) ((rowB n (stepW p ks r)).map .bool) → Kept h1 h' → topc_Match.j3 K R2 p5 l5 c5 p9 (n + 1) (n + 1) p21 l21 c21 t22 t23 h') :
    ∀ (fuel i : Nat) (h : Heap), n + 1 - i < fuel → i ≤ n + 1 → Own 1 h p9 (n + 1) (n + 1) ((rowB n (cur p ks r i)).map .bool) → Kept h1 h →
      topc_Match.L4 K R2 fuel p5 l5 c5 p p9 (n + 1) (n + 1) p21 l21 c21 t22 t23 p31 (n + 1) c31 ((n + 1 : Nat) : Int) i h
  | 0, _, _, hf, _, _, _ => absurd hf (Nat.not_lt_zero _)
  | fuel + 1, i, h, hf, hi, ho, hk => by
    have hl5 : l5 = n := by have := s5.1; simp at this; omega
    unfold topc_Match.L4
    by_cases hin : i < n + 1
    · refine ifT (by simp; omega) ?_
      refine ix (s31.kept hk) rfl (rowB_get (k := i) (by omega)) ?_
      simp only [bd]
      have next : ∀ h', Own 1 h' p9 (n + 1) (n + 1) ((rowB n (cur p ks r (i + 1))).map .bool) → Kept h1 h' → topc_Match.j5 K R2 (topc_Match.L4 K R2 fuel) p5 l5 c5 p p9 (n + 1) (n + 1) p21 l21 c21 t22 t23 p31 (n + 1) c31 ((n + 1 : Nat) : Int) i h' := by
        intro h' ho' hk'
        unfold topc_Match.j5
        rw [wrap_succ (by omega)]
        exact match_in hn hb s5 s31 h9 hR fuel (i + 1) h' (by omega) (by omega) ho' hk'
      by_cases hp : p = [35]
      · subst hp
        refine ifT (by simp) ?_
        have fin : ∀ v : Bool, v = stepW [35] ks r i → ∃ a, p9 = some a ∧ (0 : Int) ≤ (i : Int) ∧ (i : Int) < ((n + 1 : Nat) : Int) ∧ ∃ h', stC h (Addr.add a (Int.toNat (i : Int) * 1)) 0 [.bool v] = some h' ∧ topc_Match.j5 K R2 (topc_Match.L4 K R2 fuel) p5 l5 c5 [35] p9 (n + 1) (n + 1) p21 l21 c21 t22 t23 p31 (n + 1) c31 ((n + 1 : Nat) : Int) i h' :=
          fun v hv => put_row ho rfl (by omega) (fun j _ => cur_hash hv j) fun h' o' k' => next h' o' (fresh_keep h9 hk k')
        cases hr : r i with
        | true =>
          exact ifT' rfl (fin true (by rw [stepW_hash, hr, Bool.or_true]))
        | false =>
          refine ifF' rfl ?_
          by_cases h0 : 0 < i
          · refine ifT (by simp; omega) ?_
            obtain ⟨i', rfl⟩ : ∃ i', i = i' + 1 := ⟨i - 1, by omega⟩
            refine ix ho.sl (wrap_pred h0 (by omega)) (rowB_get (k := i' + 1 - 1) (by omega)) ?_
            refine fin _ ?_
            rw [stepW_hash_succ, hr, Bool.or_false]
            unfold cur
            simp
          · refine ifF (by simp; omega) ?_
            obtain rfl : i = 0 := by omega
            exact fin false (by rw [stepW_hash, hr]; rfl)
      · refine ifF (by simpa using hp) ?_
        have fin : ∀ v : Bool, v = stepW p ks r (i + 1) → (v = true → i < n) → topc_Match.j6 K R2 (topc_Match.L4 K R2 fuel) p5 l5 c5 p p9 (n + 1) (n + 1) i p21 l21 c21 t22 t23 p31 (n + 1) c31 ((n + 1 : Nat) : Int) i v h := by
          intro v hv hvi
          unfold topc_Match.j6
          cases v with
          | true =>
            refine ifT rfl ?_
            refine put_row ho (wrap_succ (by omega)) (by have := hvi rfl; omega) (fun j _ => cur_word hp hv j) fun h' o' k' => ?_
            exact next h' o' (fresh_keep h9 hk k')
          | false =>
            refine ifF rfl (next h ?_ hk)
            rw [rowB_ext fun j _ => cur_same hp hv.symm j]
            exact ho
        cases hr : r i with
        | false =>
          refine ifF rfl (fin false ?_ (by simp))
          by_cases hlt : i < n
          · rw [step_word hp (List.getElem?_eq_getElem (hn ▸ hlt)), hr]; rfl
          · rw [step_over hp (by omega)]
        | true =>
          refine ifT rfl ?_
          by_cases hlt : i < n
          · have hlt' : i < ks.length := hn ▸ hlt
            have hst : stepW p ks r (i + 1) = (p == [42] || p == ks[i]) := by rw [step_word hp (List.getElem?_eq_getElem hlt'), hr]; rfl
            refine ifT (by rw [hl5]; simp; omega) ?_
            by_cases hs : p = [42]
            · refine ifT' (by simpa using hs) (fin true ?_ fun _ => hlt)
              rw [hst, hs]; rfl
            · refine ifF' (by simpa using hs) ?_
              refine ix (s5.kept hk) rfl (List.getElem?_eq_getElem hlt') (fin _ ?_ fun _ => hlt)
              rw [hst]
              simp [hs]
          · refine ifF (by rw [hl5]; simp; omega) (fin false (step_over hp (by omega)).symm (by simp))
    · refine ifF (by simp; omega) (hR h ?_ hk)
      obtain rfl : i = n + 1 := by omega
      rw [rowB_ext (cur_end p ks r)] at ho
      exact ho

theorem Sl.lt {sz : Nat} {h : Heap} {p : OA} {l : Nat} {vs : List Value} (m : Sl sz h p l vs) (hv : vs ≠ []) : ∀ a, p = some a → a.block < h.size := by
  intro a e
  subst e
  exact At.lt m.2 hv

theorem row_zero (n : Nat) (f : Nat → Bool) (hf : ∀ j, f j = false) : List.replicate (n + 1) (Value.bool false) = (rowB n f).map .bool := by
  unfold rowB
  rw [List.map_map]
  apply List.ext_getElem
  · simp
  · intro i _ _
    simp [hf]

/-- The program's outer loop. -/
theorem match_out {K : KT} {ks : List Wd} {n : Nat} (hn : n = ks.length) (hb : n < 1000000) {h0 : Heap} {p5 p21 : OA} {l5 c5 l21 c21 : Nat} {ws : List Wd} (hk5 : Sl 1 h0 p5 l5 (ks.map strV)) (h21 : Sl 1 h0 p21 l21 (ws.map strV)) (hl : ws.length < 1000000)
    {Q : Bool} {r0 : Nat → Bool} (hQ : Q = rowOf ws ks r0 n) (hK : ∀ h', Kept h0 h' → K (.bool Q) h') :
    ∀ (fuel i : Nat) (p6 : OA) (l6 c6 : Nat) (r : Nat → Bool) (h : Heap), ws.length - i < fuel → i ≤ ws.length → Sl 1 h p6 l6 ((rowB n r).map .bool) → rowOf (ws.drop i) ks r n = Q → Kept h0 h →
      topc_Match.L2 K fuel p5 l5 c5 p6 l6 c6 p21 l21 c21 ((l21 : Nat) : Int) i h
  | 0, _, _, _, _, _, _, hf, _, _, _, _ => absurd hf (Nat.not_lt_zero _)
  | fuel + 1, i, p6, l6, c6, r, h, hf, hi, s6, hr, hk => by
    have e5 : l5 = n := by have := hk5.1; simp at this; omega
    have e21 : l21 = ws.length := by have := h21.1; simpa using this.symm
    have e6 : l6 = n + 1 := by have := s6.1; simp [rowB] at this; omega
    unfold topc_Match.L2
    by_cases hlt : i < ws.length
    · refine ifT (by simp; omega) ?_
      refine ix (h21.kept hk) rfl (List.getElem?_eq_getElem hlt) ?_
      have hw : IntKind.i64.wrap ((l5 : Int) + 1) = ((n + 1 : Nat) : Int) := by rw [e5, wrap_succ (by omega)]
      rw [hw]
      refine make_own sl_bool rfl (by omega) (by omega) fun h2 ho hk2 hs2 => ?_
      refine ⟨_, _, _, rfl, n + 2, ?_⟩
      rw [row_zero n _ (cur_zero ws[i] ks r)] at ho
      subst e6
      have := match_in (K := K) (R2 := topc_Match.L2 K fuel) (p := ws[i]) (h1 := h) (p9 := some (top h)) (c5 := c5) (l21 := l21) (c21 := c21) (c31 := c6) (t22 := ((l21 : Nat) : Int)) (t23 := i) (p21 := p21) hn hb (hk5.kept hk) s6 rfl (fun h' ho' hk' => ?_) (n + 2) 0 h2 (by omega) (by omega) ho hk2
      · exact this
      · unfold topc_Match.j3
        rw [wrap_succ (by omega)]
        refine match_out hn hb hk5 h21 hl hQ hK fuel (i + 1) _ _ _ (stepW ws[i] ks r) h' (by omega) (by omega) ho'.sl ?_ (hk.trans hk')
        rw [← hr, List.drop_eq_getElem_cons hlt]
        rfl
    · refine ifF (by simp; omega) ?_
      unfold topc_Match.j1
      rw [List.drop_eq_nil_of_le (by omega)] at hr
      refine ix s6 (n := n) (by rw [e5]) (rowB_get (Nat.le_refl n)) ?_
      have : r n = Q := hr
      rw [this]
      exact hK h hk

theorem words_short (s : Wd) : (wordsL s).length ≤ s.length + 1 := by
  rw [words_length]
  have : s.count 46 ≤ s.length := List.count_le_length ..
  omega

theorem Match.spec {K : KT} {p k : Wd} {h : Heap} (g : G h) (hp : p.length < 100000) (hkl : k.length < 100000) (hK : ∀ h', Kept h h' → K (.bool (matchW (wordsL p) (wordsL k))) h') :
    CallsH P F.topc_Match [.string (mkS p), .string (mkS k)] K h := by
  refine topc_Match.ok ?_
  unfold topc_Match.p0
  refine Words.spec g (by omega) fun p5 l5 c5 h5 o5 k5 => ⟨_, _, _, rfl, ?_⟩
  have hwk := words_short k
  have hwp := words_short p
  have e5 : l5 = (wordsL k).length := by have := o5.1; simpa using this.symm
  have hw : IntKind.i64.wrap ((l5 : Int) + 1) = ((l5 + 1 : Nat) : Int) := wrap_succ (by omega)
  rw [hw]
  refine make_own sl_bool rfl (by omega) (by omega) fun h6 ho hk6 hs6 => ⟨_, _, _, rfl, ?_⟩
  rw [row_zero l5 (fun _ => false) (fun _ => rfl)] at ho
  refine put_row ho (k := 0) (g := fun i => i == 0) rfl (by omega) (fun j _ => by by_cases hj : j = 0 <;> simp [hj]) fun h7 ho7 hk7 => ?_
  have hk57 : Kept h5 h7 := fresh_keep rfl hk6 hk7
  have hk07 : Kept h h7 := k5.trans hk57
  refine Words.spec (g.kept hk07) (by omega) fun p21 l21 c21 h8 o8 k8 => ⟨_, _, _, rfl, (wordsL p).length + 1, ?_⟩
  refine match_out (n := l5) (Q := matchW (wordsL p) (wordsL k)) (r0 := fun i => i == 0) e5 (by omega) ((o5.sl.kept hk57).kept k8) o8.sl (by omega) ?_ (fun h' hk' => hK h' ((hk07.trans k8).trans hk')) _ 0 _ _ _ (fun i => i == 0) h8 (by omega) (by omega) (ho7.sl.kept k8) ?_ (Kept.refl h8)
  · rw [e5, rowOf_match]
  · rw [e5, List.drop_zero, rowOf_match]

/-! ### The document's -/

theorem refMatch_in {K : KT} {R2 : OA → Nat → Nat → OA → Nat → Nat → OA → Nat → Nat → Int → Heap → Prop} {ks ws : List Wd} {r : Nat → Bool} {p : Wd} {n e : Nat} (hn : n = ks.length) (hb : n < 1000000) {h1 : Heap} {p5 p6 p7 p9 : OA} {l5 c5 c6 c7 : Nat}
    (s5 : Sl 1 h1 p5 l5 (ws.map strV)) (hp5 : ws[e]? = some p) (s6 : Sl 1 h1 p6 n (ks.map strV)) (s7 : Sl 1 h1 p7 (n + 1) ((rowB n r).map .bool)) (h9 : p9 = some (top h1))
    (hR : ∀ h', Own 1 h' p9 (n + 1) (n + 1) ((rowB n (stepW p ks r)).map .bool) → Kept h1 h' → waybillref1_Match.j3 K R2 p5 l5 c5 p6 n c6 e p9 (n + 1) (n + 1) h') :
    ∀ (fuel i : Nat) (h : Heap), n + 1 - i < fuel → i ≤ n + 1 → Own 1 h p9 (n + 1) (n + 1) ((rowB n (cur p ks r i)).map .bool) → Kept h1 h →
      waybillref1_Match.L4 K R2 fuel p5 l5 c5 p6 n c6 p7 (n + 1) c7 e p9 (n + 1) (n + 1) ((List.range i).any r) i h
  | 0, _, _, hf, _, _, _ => absurd hf (Nat.not_lt_zero _)
  | fuel + 1, i, h, hf, hi, ho, hk => by
    unfold waybillref1_Match.L4
    by_cases hin : i < n + 1
    · refine ifT (by simp; omega) ?_
      have hany : (List.range (i + 1)).any r = ((List.range i).any r || r i) := by rw [List.range_succ, List.any_append]; simp
      have next : ∀ h', Own 1 h' p9 (n + 1) (n + 1) ((rowB n (cur p ks r (i + 1))).map .bool) → Kept h1 h' → waybillref1_Match.j5 K R2 (waybillref1_Match.L4 K R2 fuel) p5 l5 c5 p6 n c6 p7 (n + 1) c7 e p9 (n + 1) (n + 1) ((List.range (i + 1)).any r) i h' := by
        intro h' ho' hk'
        unfold waybillref1_Match.j5
        rw [wrap_succ (by omega)]
        exact refMatch_in hn hb s5 hp5 s6 s7 h9 hR fuel (i + 1) h' (by omega) (by omega) ho' hk'
      have mid : waybillref1_Match.j6 K R2 (waybillref1_Match.L4 K R2 fuel) p5 l5 c5 p6 n c6 p7 (n + 1) c7 e p9 (n + 1) (n + 1) ((List.range (i + 1)).any r) i h := by
        unfold waybillref1_Match.j6
        refine ix (s5.kept hk) rfl hp5 ?_
        simp only [bd]
        by_cases hp : p = [35]
        · subst hp
          refine ifT (by simp) ?_
          refine put_row ho rfl (by omega) (fun j _ => cur_hash (v := (List.range (i + 1)).any r) (by rw [stepW_hash, hany]) j) fun h' o' k' => ?_
          exact next h' o' (fresh_keep h9 hk k')
        · refine ifF (by simpa using hp) ?_
          have fin : ∀ v : Bool, v = stepW p ks r (i + 1) → (v = true → i < n) → waybillref1_Match.j7 K R2 (waybillref1_Match.L4 K R2 fuel) p5 l5 c5 p6 n c6 p7 (n + 1) c7 e p9 (n + 1) (n + 1) ((List.range (i + 1)).any r) i v h := by
            intro v hv hvi
            unfold waybillref1_Match.j7
            cases v with
            | true =>
              refine ifT rfl ?_
              refine put_row ho (wrap_succ (by omega)) (by have := hvi rfl; omega) (fun j _ => cur_word hp hv j) fun h' o' k' => ?_
              exact next h' o' (fresh_keep h9 hk k')
            | false =>
              refine ifF rfl (next h ?_ hk)
              rw [rowB_ext fun j _ => cur_same hp hv.symm j]
              exact ho
          by_cases hlt : i < n
          · have hlt' : i < ks.length := hn ▸ hlt
            refine ifT (by simp; omega) ?_
            refine ix (s7.kept hk) rfl (rowB_get (k := i) (by omega)) ?_
            cases hr : r i with
            | false =>
              refine ifF rfl (fin false ?_ (by simp))
              rw [step_word hp (List.getElem?_eq_getElem hlt'), hr]; rfl
            | true =>
              refine ifT rfl ?_
              have hst : stepW p ks r (i + 1) = (p == [42] || p == ks[i]) := by rw [step_word hp (List.getElem?_eq_getElem hlt'), hr]; rfl
              refine ix (s5.kept hk) rfl hp5 ?_
              by_cases hs : p = [42]
              · refine ifT' (by simpa using hs) (fin true ?_ fun _ => hlt)
                rw [hst, hs]; rfl
              · refine ifF' (by simpa using hs) ?_
                obtain ⟨a1, e1, e2, e3, e4⟩ := ix2 (s5.kept hk) hp5
                obtain ⟨a2, f1, f2, f3, f4⟩ := ix2 (s6.kept hk) (List.getElem?_eq_getElem hlt')
                refine ⟨a1, e1, e2, e3, a2, f1, f2, f3, p, e4, ks[i], f4, ?_⟩
                refine fin _ ?_ fun _ => hlt
                rw [hst]
                simp [hs]
          · refine ifF (by simp; omega) (fin false (step_over hp (by omega)).symm (by simp))
      cases ha : (List.range i).any r with
      | true =>
        refine ifT' rfl ?_
        rw [hany, ha] at mid
        exact mid
      | false =>
        refine ifF' rfl ?_
        refine ix (s7.kept hk) rfl (rowB_get (k := i) (by omega)) ?_
        rw [hany, ha] at mid
        exact mid
    · refine ifF (by simp; omega) (hR h ?_ hk)
      obtain rfl : i = n + 1 := by omega
      rw [rowB_ext (cur_end p ks r)] at ho
      exact ho

theorem refMatch_out {K : KT} {ks : List Wd} {n : Nat} (hn : n = ks.length) (hb : n < 1000000) {h0 : Heap} {p5 p6 : OA} {l5 c5 c6 : Nat} {ws : List Wd} (hk6 : Sl 1 h0 p6 n (ks.map strV)) (h5 : Sl 1 h0 p5 l5 (ws.map strV)) (hl : ws.length < 1000000)
    {Q : Bool} (hK : ∀ h', Kept h0 h' → K (.bool Q) h') :
    ∀ (fuel i : Nat) (p7 : OA) (l7 c7 : Nat) (r : Nat → Bool) (h : Heap), ws.length - i < fuel → i ≤ ws.length → Sl 1 h p7 l7 ((rowB n r).map .bool) → rowOf (ws.drop i) ks r n = Q → Kept h0 h →
      waybillref1_Match.L2 K fuel p5 l5 c5 p6 n c6 p7 l7 c7 i h
  | 0, _, _, _, _, _, _, hf, _, _, _, _ => absurd hf (Nat.not_lt_zero _)
  | fuel + 1, i, p7, l7, c7, r, h, hf, hi, s7, hr, hk => by
    have e5 : l5 = ws.length := by have := h5.1; simpa using this.symm
    have e7 : l7 = n + 1 := by have := s7.1; simp [rowB] at this; omega
    unfold waybillref1_Match.L2
    by_cases hlt : i < ws.length
    · refine ifT (by simp; omega) ?_
      rw [wrap_succ (by omega)]
      refine make_own sl_bool rfl (by omega) (by omega) fun h2 ho hk2 hs2 => ?_
      refine ⟨_, _, _, rfl, n + 2, ?_⟩
      rw [row_zero n _ (cur_zero ws[i] ks r)] at ho
      subst e7
      refine refMatch_in (R2 := waybillref1_Match.L2 K fuel) (h1 := h) hn hb (h5.kept hk) (List.getElem?_eq_getElem hlt) (hk6.kept hk) s7 rfl (fun h' ho' hk' => ?_) (n + 2) 0 h2 (by omega) (by omega) ho hk2
      unfold waybillref1_Match.j3
      rw [wrap_succ (by omega)]
      refine refMatch_out hn hb hk6 h5 hl hK fuel (i + 1) _ _ _ (stepW ws[i] ks r) h' (by omega) (by omega) ho'.sl ?_ (hk.trans hk')
      rw [← hr, List.drop_eq_getElem_cons hlt]
      rfl
    · refine ifF (by simp; omega) ?_
      unfold waybillref1_Match.j1
      rw [List.drop_eq_nil_of_le (by omega)] at hr
      refine ix s7 (n := n) rfl (rowB_get (Nat.le_refl n)) ?_
      have : r n = Q := hr
      rw [this]
      exact hK h hk

theorem refMatch.spec {K : KT} {p k : Wd} {h : Heap} (hp : p.length < 100000) (hkl : k.length < 100000) (hK : ∀ h', Kept h h' → K (.bool (matchW (wordsL p) (wordsL k))) h') :
    CallsH P F.waybillref1_Match [.string (mkS p), .string (mkS k)] K h := by
  refine waybillref1_Match.ok ?_
  unfold waybillref1_Match.p0
  have hwk := words_short k
  have hwp := words_short p
  refine refWords.spec (by omega) fun p5 l5 c5 h5 o5 k5 => ⟨_, _, _, rfl, ?_⟩
  refine refWords.spec (by omega) fun p6 l6 c6 h6 o6 k6 => ⟨_, _, _, rfl, ?_⟩
  have e6 : l6 = (wordsL k).length := by have := o6.1; simpa using this.symm
  rw [wrap_succ (by omega)]
  refine make_own sl_bool rfl (by omega) (by omega) fun h7 ho hk7 hs7 => ⟨_, _, _, rfl, ?_⟩
  rw [row_zero l6 (fun _ => false) (fun _ => rfl)] at ho
  refine put_row ho (k := 0) (g := fun i => i == 0) rfl (by omega) (fun j _ => by by_cases hj : j = 0 <;> simp [hj]) fun h8 ho8 hk8 => ⟨(wordsL p).length + 1, ?_⟩
  have hk68 : Kept h6 h8 := fresh_keep rfl hk7 hk8
  refine refMatch_out (n := l6) (Q := matchW (wordsL p) (wordsL k)) e6 (by omega) (o6.sl.kept hk68) ((o5.sl.kept k6).kept hk68) (by omega) (fun h' hk' => hK h' (((k5.trans k6).trans hk68).trans hk')) _ 0 _ _ _ (fun i => i == 0) h8 (by omega) (by omega) ho8.sl ?_ (Kept.refl h8)
  rw [e6, List.drop_zero, rowOf_match]

end Go.Proofs.YtpfnfmlibpoleaaDoor.Pr
