/- The statements about words and patterns: each answers true; for any texts. -/
import Derived.Test.YtpfnfmlibpoleaaDoorTopcMatch
import Derived.Test.YtpfnfmlibpoleaaDoorPrLaw6Awake
import Derived.Test.YtpfnfmlibpoleaaDoorPrLaw6Tame
import Derived.Test.YtpfnfmlibpoleaaDoorPrLaw6Sametexts
import Derived.Test.YtpfnfmlibpoleaaDoorPrLaw6Topcjoins
import Derived.Test.YtpfnfmlibpoleaaDoorPrLaw6Topctells
import Derived.Test.YtpfnfmlibpoleaaDoorPrLaw6Topcwords
import Derived.Test.YtpfnfmlibpoleaaDoorPrLaw6Topcstars
import Derived.Test.YtpfnfmlibpoleaaDoorPrLaw6Topchash
set_option linter.unusedVariables false
namespace Go.Proofs.YtpfnfmlibpoleaaDoor.Pr
open Go Go.Lift Go.Proofs Pl

structure Ok (h0 h : Heap) : Prop where
  g : G h
  k : Kept h0 h
theorem Ok.kept {h0 h h' : Heap} (o : Ok h0 h) (k : Kept h h') : Ok h0 h' := ⟨o.g.kept k, o.k.trans k⟩
theorem Ok.refl {h : Heap} (g : G h) : Ok h h := ⟨g, Kept.refl h⟩
abbrev done (h0 : Heap) : KT := fun v h' => v = .bool true ∧ Kept h0 h'

theorem mt {p k : Wd} {h0 h : Heap} {R : Bool → Heap → Prop} (o : Ok h0 h) (hp : p.length < 100000) (hk : k.length < 100000) (hF : ∀ h', Ok h0 h' → R (matchW (wordsL p) (wordsL k)) h') :
    CallsH P F.topc_Match [.string (mkS p), .string (mkS k)] (fun v h' => ∃ b, v = .bool b ∧ R b h') h :=
  Match.spec o.g hp hk fun h' k' => ⟨_, rfl, hF h' (o.kept k')⟩

theorem wd {s : Wd} {h0 h : Heap} {R : OA → Nat → Nat → Heap → Prop} (o : Ok h0 h) (hs : s.length < 1000000) (hF : ∀ p l c h', Ok h0 h' → Sl 1 h' p l ((wordsL s).map strV) → R p l c h') :
    CallsH P F.topc_Words [.string (mkS s)] (fun v h' => ∃ a l c, v = .slice a l c ∧ R a l c h') h :=
  Words.spec o.g hs fun p l c h' o' k' => ⟨_, _, _, rfl, hF p l c h' (o.kept k') o'.sl⟩

theorem aw {h0 h : Heap} (o : Ok h0 h) : CallsH P F.waybilllaw6_awake [] (fun v h' => ∃ b, v = .bool b ∧ done h0 (.bool b) h') h := by
  refine waybilllaw6_awake.ok ?_
  unfold waybilllaw6_awake.p0
  refine mt o (by decide) (by decide) fun h1 o1 => ifT (by decide) ?_
  refine mt o1 (by decide) (by decide) fun h2 o2 => ifT (by decide) ?_
  refine mt o2 (by decide) (by decide) fun h3 o3 => ifT (by decide) ?_
  refine mt o3 (by decide) (by decide) fun h4 o4 => ifT (by decide) ?_
  refine wd o4 (by decide) fun p l c h5 o5 s5 => ?_
  have e5 : l = 1 := by have := s5.1; simpa [wordsL] using this.symm
  subst e5
  refine ifT rfl ?_
  refine wd o5 (by decide) fun p l c h6 o6 s6 => ?_
  have e6 : l = 3 := by have := s6.1; simpa [wordsL] using this.symm
  subst e6
  exact ⟨_, rfl, rfl, o6.k⟩

/-! ### Tame -/

theorem tame_loop {K : KT} {s : Wd} {h0 : Heap} (hK : ∀ t h', t.length ≤ 28 → Ok h0 h' → K (.string (mkS t)) h') :
    ∀ (fuel : Nat) (t : Wd) (i : Nat) (h : Heap), 15 - i < fuel → i ≤ 14 → t.length ≤ 2 * i → Ok h0 h → waybilllaw6_Tame.L1 K fuel s t i h
  | 0, _, _, _, hf, _, _, _ => absurd hf (Nat.not_lt_zero _)
  | fuel + 1, t, i, h, hf, hi, ht, o => by
    unfold waybilllaw6_Tame.L1
    by_cases hl : i < s.length
    · refine ifT (by simp; omega) ?_
      unfold waybilllaw6_Tame.j2
      by_cases h14 : i < 14
      · refine ifT (by simp; omega) ⟨by omega, by omega, by decide, ?_⟩
        simp only [bd]
        rw [lb_eq hl]
        have hk : ∃ k : Nat, k < 7 ∧ ((s[i].toNat : Nat) : Int).tmod 7 = (k : Int) := ⟨s[i].toNat % 7, Nat.mod_lt _ (by decide), by rw [Int.tmod_eq_emod_of_nonneg (by omega)]; rfl⟩
        obtain ⟨k, hk7, hke⟩ := hk
        rw [hke]
        have hs : Sl 1 (al h #[.string (mkS ([97] : List UInt8)), .string (mkS ([98] : List UInt8)), .string (mkS ([46] : List UInt8)), .string (mkS ([46] : List UInt8)), .string (mkS ([42] : List UInt8)), .string (mkS ([35] : List UInt8)), .string (mkS ([97, 98] : List UInt8))] T.string) (some (top h)) 7 (([[97], [98], [46], [46], [42], [35], [97, 98]] : List Wd).map strV) :=
          ⟨rfl, (Mem.new h (([[97], [98], [46], [46], [42], [35], [97, 98]] : List Wd).map strV) T.string).1⟩
        have hx : ∃ x : Wd, ([[97], [98], [46], [46], [42], [35], [97, 98]] : List Wd)[k]? = some x ∧ x.length ≤ 2 := by
          have : k = 0 ∨ k = 1 ∨ k = 2 ∨ k = 3 ∨ k = 4 ∨ k = 5 ∨ k = 6 := by omega
          rcases this with rfl | rfl | rfl | rfl | rfl | rfl | rfl <;> exact ⟨_, rfl, by decide⟩
        obtain ⟨x, hx1, hx2⟩ := hx
        refine ix hs rfl hx1 ⟨by omega, ?_⟩
        rw [wrap_succ (by omega)]
        exact tame_loop hK fuel (t ++ x) (i + 1) _ (by omega) (by omega) (by simp; omega) (o.kept (Keeps.al _ h _ T.string))
      · exact ifF (by simp; omega) (hK t h (by omega) o)
    · refine ifF (by simp; omega) ?_
      unfold waybilllaw6_Tame.j2
      exact ifF rfl (hK t h (by omega) o)

theorem tm {s : Wd} {h0 h : Heap} {R : Wd → Heap → Prop} (o : Ok h0 h) (hF : ∀ t h', t.length ≤ 28 → Ok h0 h' → R t h') :
    CallsH P F.waybilllaw6_Tame [.string (mkS s)] (fun v h' => ∃ t, v = .string (mkS t) ∧ R t h') h := by
  refine waybilllaw6_Tame.ok ?_
  unfold waybilllaw6_Tame.p0
  exact ⟨16, tame_loop (h0 := h0) (fun t h' ht o' => ⟨t, rfl, hF t h' ht o'⟩) 16 [] 0 h (by omega) (by omega) (by simp) o⟩

/-! ### TopcJoins -/

theorem w_x (p : Wd) : wordsL ([120, 46] ++ p) = [120] :: wordsL p := wordsL_append [120] p
theorem w_y (p : Wd) : wordsL ([121, 46] ++ p) = [121] :: wordsL p := wordsL_append [121] p
theorem w_s (p : Wd) : wordsL ([42, 46] ++ p) = [42] :: wordsL p := wordsL_append [42] p
theorem w_h (p : Wd) : wordsL ([35, 46] ++ p) = [35] :: wordsL p := wordsL_append [35] p
theorem w_ex (p : Wd) : wordsL (p ++ [46, 120]) = wordsL p ++ [[120]] := wordsL_append p [120]
theorem w_eh (p : Wd) : wordsL (p ++ [46, 35]) = wordsL p ++ [[35]] := wordsL_append p [35]
theorem w_mid (p q : Wd) : wordsL (p ++ [46] ++ q) = wordsL p ++ wordsL q := by rw [List.append_assoc]; exact wordsL_append p q

theorem joins_j2 {p a : Wd} {h0 h : Heap} (hp : p.length ≤ 28) (ha : a.length ≤ 28) (o : Ok h0 h) : waybilllaw6_TopcJoins.j2 (done h0) p a false h := by
  unfold waybilllaw6_TopcJoins.j2
  refine ifF rfl ⟨by simp; omega, by simp; omega, ?_⟩
  refine mt o (by simp; omega) (by simp; omega) fun h1 o1 => ?_
  refine mt o1 (by omega) (by omega) fun h2 o2 => ?_
  refine ifT (by rw [w_x, w_x, matchW_cons (by decide)]; simp) ⟨by simp; omega, by simp; omega, ?_⟩
  refine mt o2 (by simp; omega) (by simp; omega) fun h3 o3 => ?_
  refine mt o3 (by omega) (by omega) fun h4 o4 => ?_
  refine ifT (by rw [w_ex, w_ex, matchW_last (by decide) (.inr rfl)]; simp) ⟨by simp; omega, by simp; omega, ?_⟩
  refine mt o4 (by simp; omega) (by simp; omega) fun h5 o5 => ?_
  refine ifT (by rw [w_x, w_y, matchW_cons (by decide)]; rfl) ⟨by simp; omega, by simp; omega, ?_⟩
  refine mt o5 (by simp; omega) (by simp; omega) fun h6 o6 => ?_
  refine mt o6 (by omega) (by omega) fun h7 o7 => ?_
  exact ifT (by rw [w_s, w_y, matchW_cons (by decide)]; simp) (aw o7)

theorem TopcJoins.law (p q a b : Wd) {h : Heap} (g : G h) : CallsH P F.waybilllaw6_TopcJoins [.string (mkS p), .string (mkS q), .string (mkS a), .string (mkS b)] (done h) h := by
  have o := Ok.refl g
  refine waybilllaw6_TopcJoins.ok ?_
  unfold waybilllaw6_TopcJoins.p0
  have key : ∀ v : Bool, waybilllaw6_TopcJoins.j1 (done h) p q a b v h := by
    intro v
    unfold waybilllaw6_TopcJoins.j1
    cases v with
    | true => exact ifT rfl (aw o)
    | false =>
      refine ifF rfl ?_
      refine tm o fun p h1 hp o1 => ?_
      refine tm o1 fun q h2 hq o2 => ?_
      refine tm o2 fun a h3 ha o3 => ?_
      refine tm o3 fun b h4 hb o4 => ?_
      refine mt o4 (by omega) (by omega) fun h5 o5 => ⟨fun e1 => ?_, fun _ => joins_j2 hp ha o5⟩
      refine mt o5 (by omega) (by omega) fun h6 o6 => ⟨fun e2 => ?_, fun _ => joins_j2 hp ha o6⟩
      refine ⟨by simp; omega, by simp; omega, by simp; omega, by simp; omega, ?_⟩
      refine mt o6 (by simp; omega) (by simp; omega) fun h7 o7 => ?_
      have : matchW (wordsL (p ++ [46] ++ q)) (wordsL (a ++ [46] ++ b)) = true := by
        rw [w_mid, w_mid]
        exact matchW_append.2 ⟨_, _, rfl, e1, e2⟩
      rw [this]
      exact joins_j2 hp ha o7
  exact ⟨fun _ => ⟨fun _ => ⟨fun _ => key _, fun _ => key _⟩, fun _ => key _⟩, fun _ => key _⟩

/-! ### TopcTells -/

theorem same_loop {K : KT} {ws : List Wd} {p q : OA} {l c d : Nat} {h : Heap} (s1 : Sl 1 h p l (ws.map strV)) (s2 : Sl 1 h q l (ws.map strV)) (hl : l < 1000000) (hK : K (.bool true) h) :
    ∀ (fuel i : Nat), l - i < fuel → i ≤ l → waybilllaw6_SameTexts.L1 K fuel p l c q l d i h
  | 0, _, hf, _ => absurd hf (Nat.not_lt_zero _)
  | fuel + 1, i, hf, hi => by
    have el : l = ws.length := by have := s1.1; simpa using this.symm
    unfold waybilllaw6_SameTexts.L1
    by_cases hlt : i < l
    · refine ifT (by simp; omega) ?_
      obtain ⟨a1, e1, e2, e3, e4⟩ := ix2 s1 (List.getElem?_eq_getElem (el ▸ hlt))
      obtain ⟨a2, f1, f2, f3, f4⟩ := ix2 s2 (List.getElem?_eq_getElem (el ▸ hlt))
      refine ⟨a1, e1, e2, e3, a2, f1, f2, f3, _, e4, _, f4, ifF (by simp) ?_⟩
      simp only [bd]
      rw [wrap_succ (by omega)]
      exact same_loop s1 s2 hl hK fuel (i + 1) (by omega) (by omega)
    · exact ifF (by simp; omega) hK

theorem same {ws : List Wd} {p q : OA} {l l' c d : Nat} {h : Heap} {R : Bool → Heap → Prop} (s1 : Sl 1 h p l (ws.map strV)) (s2 : Sl 1 h q l' (ws.map strV)) (hl : l < 1000000) (hF : R true h) :
    CallsH P F.waybilllaw6_SameTexts [.slice p l c, .slice q l' d] (fun v h' => ∃ b, v = .bool b ∧ R b h') h := by
  have el : l = ws.length := by have := s1.1; simpa using this.symm
  have el' : l' = ws.length := by have := s2.1; simpa using this.symm
  subst el; subst el'
  refine waybilllaw6_SameTexts.ok ?_
  unfold waybilllaw6_SameTexts.p0
  exact ifF (by simp) ⟨ws.length + 1, same_loop s1 s2 hl ⟨_, rfl, hF⟩ _ 0 (by omega) (by omega)⟩

theorem tells_loop {h0 : Heap} : ∀ (fuel i : Nat) (p k : Wd) (h : Heap), 2 - i < fuel → i ≤ 2 → p.length ≤ 300 → k.length ≤ 300 → Ok h0 h → waybilllaw6_TopcTells.L3 (done h0) fuel p k i h
  | 0, _, _, _, _, hf, _, _, _, _ => absurd hf (Nat.not_lt_zero _)
  | fuel + 1, i, p, k, h, hf, hi, hp, hk, o => by
    unfold waybilllaw6_TopcTells.L3
    by_cases h2 : i < 2
    · refine ifT (by simp; omega) ?_
      refine mt o (by omega) (by omega) fun h1 o1 => ?_
      refine refMatch.spec (by omega) (by omega) fun h2 k2 => ⟨_, rfl, ?_⟩
      have o2 := o1.kept k2
      refine ifF' (by simp) ?_
      refine wd o2 (by omega) fun p1 l1 c1 h3 o3 s3 => ?_
      refine refWords.spec (by omega) fun p2 l2 c2 h4 s4 k4 => ⟨_, _, _, rfl, ?_⟩
      have hw := words_short p
      have e1 : l1 = (wordsL p).length := by have := s3.1; simpa using this.symm
      refine same (s3.kept k4) s4.sl (by omega) ?_
      have o4 := o3.kept k4
      unfold waybilllaw6_TopcTells.j4
      refine ifF rfl ?_
      refine tm o4 fun p' h5 hp' o5 => ?_
      refine tm o5 fun k' h6 hk' o6 => ?_
      simp only [bd]
      rw [wrap_succ (by omega)]
      exact tells_loop fuel (i + 1) p' k' h6 (by omega) (by omega) (by omega) (by omega) o6
    · refine ifF (by simp; omega) ?_
      unfold waybilllaw6_TopcTells.j2
      exact aw o

theorem TopcTells.law (p k : Wd) {h : Heap} (g : G h) : CallsH P F.waybilllaw6_TopcTells [.string (mkS p), .string (mkS k)] (done h) h := by
  have o := Ok.refl g
  refine waybilllaw6_TopcTells.ok ?_
  unfold waybilllaw6_TopcTells.p0
  have key : ∀ v : Bool, (v = false → p.length ≤ 300 ∧ k.length ≤ 300) → waybilllaw6_TopcTells.j1 (done h) p k v h := by
    intro v hv
    unfold waybilllaw6_TopcTells.j1
    cases v with
    | true => exact ifT rfl (aw o)
    | false => exact ifF rfl ⟨3, tells_loop 3 0 p k h (by omega) (by omega) (hv rfl).1 (hv rfl).2 o⟩
  refine ⟨fun e => key _ fun e2 => ?_, fun _ => key _ fun e => by cases e⟩
  simp at e e2
  omega

/-! ### TopcWords -/

theorem joinL_snoc : ∀ {ws : List Wd} (w : Wd), ws ≠ [] → joinL (ws ++ [w]) = joinL ws ++ [46] ++ w
  | [], _, h => absurd rfl h
  | [x], w, _ => by simp [joinL]
  | x :: y :: ys, w, _ => by
    rw [List.cons_append, joinL_cons _ (by simp), joinL_snoc w (by simp), joinL_cons x (by simp)]
    simp

theorem take_ne {α : Type} {l : List α} {i : Nat} (h0 : i ≠ 0) (h : i < l.length) : l.take i ≠ [] := by
  intro e
  have := congrArg List.length e
  rw [List.length_take, List.length_nil] at this
  omega

theorem joinL_take : ∀ (ws : List Wd) (i : Nat), (joinL (ws.take i)).length ≤ (joinL ws).length
  | [], i => by simp
  | [w], 0 => by simp [joinL]
  | [w], i + 1 => by simp
  | w :: x :: xs, 0 => by simp [joinL]
  | w :: x :: xs, 1 => by simp [joinL]
  | w :: x :: xs, i + 2 => by
    have := joinL_take (x :: xs) (i + 1)
    have e : (w :: x :: xs).take (i + 2) = w :: (x :: xs).take (i + 1) := rfl
    rw [e, joinL_cons w (by simp), joinL_cons w (by simp)]
    simp only [List.length_append, List.length_cons] at this ⊢
    omega

theorem words_count {s : Wd} {h0 h : Heap} (o : Ok h0 h) (hs : s.length ≤ 300) {p : OA} {l c : Nat} (hl : l = (wordsL s).length) :
    ∀ (fuel i : Nat) (t : Int), s.length - i < fuel → i ≤ s.length → t = (((s.take i).count 46 + 1 : Nat) : Int) → waybilllaw6_TopcWords.L3 (done h0) fuel s p l c s t i h
  | 0, _, _, hf, _, _ => absurd hf (Nat.not_lt_zero _)
  | fuel + 1, i, t, hf, hi, ht => by
    unfold waybilllaw6_TopcWords.L3
    have hcl : (s.take i).count 46 ≤ (s.take i).length := List.count_le_length ..
    simp only [List.length_take] at hcl
    by_cases hlt : i < s.length
    · refine ifT (by simp; omega) ⟨by omega, by omega, ?_⟩
      have e : (s.take (i + 1)).count 46 = (s.take i).count 46 + if s[i] = 46 then 1 else 0 := by
        rw [List.take_succ_eq_append_getElem hlt, List.count_append]
        simp [List.count_singleton]
      have hb : (lb s i == 46) = decide (s[i] = 46) := by rw [lb_dot hlt, List.getElem?_eq_getElem hlt, Bool.eq_iff_iff]; simp
      rw [hb]
      by_cases h46 : s[i] = 46
      · refine ifT (by simp [h46]) ?_
        unfold waybilllaw6_TopcWords.j4
        simp only [bd]
        rw [ht, wrap_succ (by omega), wrap_succ (by omega)]
        exact words_count o hs hl fuel (i + 1) _ (by omega) (by omega) (by rw [e, if_pos h46])
      · refine ifF (by simp [h46]) ?_
        unfold waybilllaw6_TopcWords.j4
        simp only [bd]
        rw [wrap_succ (by omega)]
        exact words_count o hs hl fuel (i + 1) _ (by omega) (by omega) (by rw [e, if_neg h46, ht])
    · refine ifF (by simp; omega) ?_
      unfold waybilllaw6_TopcWords.j2
      refine ifT (by simp) (ifT ?_ (aw o))
      rw [ht, hl, words_length, List.take_of_length_le (by omega)]
      simp

theorem words_scan {K : KT} {R5 : Wd → OA → Nat → Nat → Wd → Int → Int → Heap → Prop} {s w t : Wd} {h : Heap} {p : OA} {l c i : Nat} {ws : List Wd} {n : Int} (sl : Sl 1 h p l (ws.map strV)) (hw : ws[i]? = some w) (h46 : 46 ∉ w) (hwl : w.length < 1000000)
    (hR : waybilllaw6_TopcWords.j6 K R5 s p l c t n i h) :
    ∀ (fuel j : Nat), w.length - j < fuel → j ≤ w.length → waybilllaw6_TopcWords.L8 K R5 fuel s p l c t n i j h
  | 0, _, hf, _ => absurd hf (Nat.not_lt_zero _)
  | fuel + 1, j, hf, hj => by
    unfold waybilllaw6_TopcWords.L8
    refine ix sl rfl hw ?_
    by_cases hlt : j < w.length
    · refine ifT (by simp; omega) ?_
      refine ix sl rfl hw ⟨by omega, by omega, ?_⟩
      refine ifF ?_ ?_
      · rw [lb_dot hlt, List.getElem?_eq_getElem hlt]
        simp only [beq_eq_false_iff_ne, ne_eq, Option.some.injEq]
        exact fun e => h46 (e ▸ List.getElem_mem hlt)
      · simp only [bd]
        rw [wrap_succ (by omega)]
        exact words_scan sl hw h46 hwl hR fuel (j + 1) (by omega) (by omega)
    · exact ifF (by simp; omega) hR

theorem words_loop {s : Wd} {h0 h : Heap} (o : Ok h0 h) (hs : s.length ≤ 300) {p : OA} {l c : Nat} (sl : Sl 1 h p l ((wordsL s).map strV)) :
    ∀ (fuel i : Nat) (t : Wd), l - i < fuel → i ≤ l → t = joinL ((wordsL s).take i) → waybilllaw6_TopcWords.L5 (done h0) fuel s p l c t 1 i h
  | 0, _, _, hf, _, _ => absurd hf (Nat.not_lt_zero _)
  | fuel + 1, i, t, hf, hi, ht => by
    have hl : l = (wordsL s).length := by have := sl.1; simpa using this.symm
    have hsh := words_short s
    unfold waybilllaw6_TopcWords.L5
    by_cases hlt : i < l
    · have hlt' : i < (wordsL s).length := hl ▸ hlt
      have hj1 := joinL_take (wordsL s) i
      have hj2 := joinL_take (wordsL s) (i + 1)
      rw [join_words] at hj1 hj2
      have hwl : (wordsL s)[i].length < 1000000 := by
        have : ∀ c ∈ (wordsL s)[i], c ∈ s := words_sub s _ (List.getElem_mem hlt')
        have h3 : (wordsL s)[i].length ≤ (joinL ((wordsL s).take (i + 1))).length := by
          rw [List.take_succ_eq_append_getElem hlt']
          by_cases h0 : i = 0
          · subst h0; simp [joinL]
          · rw [joinL_snoc _ (take_ne (by omega) hlt')]
            simp only [List.length_append]
            omega
        omega
      have fin : ∀ t' : Wd, t'.length ≤ 1000 → t' ++ (wordsL s)[i] = joinL ((wordsL s).take (i + 1)) → waybilllaw6_TopcWords.j7 (done h0) (waybilllaw6_TopcWords.L5 (done h0) fuel) s p l c t' 1 i h := by
        intro t' htl ht'
        unfold waybilllaw6_TopcWords.j7
        refine ix sl rfl (List.getElem?_eq_getElem hlt') ⟨by omega, ?_⟩
        simp only [bd]
        refine ⟨(wordsL s)[i].length + 1, words_scan sl (List.getElem?_eq_getElem hlt') (words_plain s _ (List.getElem_mem hlt')) hwl ?_ _ 0 (by omega) (by omega)⟩
        unfold waybilllaw6_TopcWords.j6
        simp only [bd]
        rw [wrap_succ (by omega)]
        exact words_loop o hs sl fuel (i + 1) _ (by omega) (by omega) ht'
      refine ifT (by simp; omega) ?_
      by_cases h0 : 0 < i
      · refine ifT (by simp; omega) ⟨by simp; rw [ht]; omega, ?_⟩
        simp only [bd]
        refine fin _ (by simp; rw [ht]; omega) ?_
        rw [List.take_succ_eq_append_getElem hlt', joinL_snoc _ (take_ne (by omega) hlt'), ht]
      · refine ifF (by simp; omega) ?_
        obtain rfl : i = 0 := by omega
        refine fin _ (by rw [ht]; simp [joinL]) ?_
        rw [List.take_succ_eq_append_getElem hlt', ht]
        simp [joinL]
    · refine ifF (by simp; omega) ?_
      unfold waybilllaw6_TopcWords.j1
      rw [List.take_of_length_le (by omega), join_words] at ht
      subst ht
      exact ⟨t.length + 1, words_count o hs hl _ 0 1 (by omega) (by omega) (by simp)⟩

theorem TopcWords.law (s : Wd) {h : Heap} (g : G h) : CallsH P F.waybilllaw6_TopcWords [.string (mkS s)] (done h) h := by
  have o := Ok.refl g
  refine waybilllaw6_TopcWords.ok ?_
  unfold waybilllaw6_TopcWords.p0
  by_cases hs : s.length ≤ 300
  · refine ifF (by simp; omega) ?_
    refine wd o (by omega) fun p l c h1 o1 s1 => ⟨l + 1, words_loop o1 hs s1 _ 0 [] (by omega) (by omega) (by simp [joinL])⟩
  · exact ifT (by simp; omega) (aw o)

/-! ### TopcStars -/

def sign (c : UInt8) : Bool := c == 46 || c == 42 || c == 35

theorem not_sign {a : Wd} (ha : ∀ c ∈ a, sign c = false) : 46 ∉ a ∧ a ≠ [42] ∧ a ≠ [35] := by
  refine ⟨fun e => ?_, fun e => ?_, fun e => ?_⟩
  · have := ha _ e; simp [sign] at this
  · subst e; have := ha 42 (by simp); simp [sign] at this
  · subst e; have := ha 35 (by simp); simp [sign] at this

theorem star_or {u : Wd} (h : u ≠ [42]) (v : Wd) : (u == [42] || u == v) = decide (v = u) := by
  rw [Bool.eq_iff_iff]
  simp only [Bool.or_eq_true, beq_iff_eq, decide_eq_true_eq]
  exact ⟨fun e => e.elim (fun x => absurd x h) fun x => x.symm, fun e => .inr e.symm⟩

theorem match_exact {a b c : Wd} (ha : a ≠ [42] ∧ a ≠ [35]) (hb : b ≠ [42] ∧ b ≠ [35]) (hc : c ≠ [42] ∧ c ≠ [35]) (ks : List Wd) : matchW [a, b, c] ks = decide (ks = [a, b, c]) := by
  rcases ks with _ | ⟨x, _ | ⟨y, _ | ⟨z, _ | ⟨w, t⟩⟩⟩⟩ <;> simp [matchW, ha, hb, hc]
  rw [star_or ha.1, star_or hb.1, star_or hc.1]

theorem stars_end {a b c k : Wd} (ha : ∀ x ∈ a, sign x = false) (hb : ∀ x ∈ b, sign x = false) (hc : ∀ x ∈ c, sign x = false) (hla : a.length ≤ 60) (hlb : b.length ≤ 60) (hlc : c.length ≤ 60) (hk : k.length ≤ 200) {h0 h : Heap} (o : Ok h0 h) :
    waybilllaw6_TopcStars.j2 (done h0) a b c k h := by
  obtain ⟨a1, a2, a3⟩ := not_sign ha
  obtain ⟨b1, b2, b3⟩ := not_sign hb
  obtain ⟨c1, c2, c3⟩ := not_sign hc
  have ek : wordsL ((((a ++ [46]) ++ b) ++ [46]) ++ c) = [a, b, c] := by rw [w_mid, w_mid, wordsL_plain a a1, wordsL_plain b b1, wordsL_plain c c1]; rfl
  unfold waybilllaw6_TopcStars.j2
  refine ⟨by simp; omega, by simp; omega, by simp; omega, by simp; omega, ?_⟩
  simp only [bd]
  refine mt o (by simp; omega) (by simp; omega) fun h1 o1 => ?_
  refine ifF' ?_ ⟨by simp; omega, by simp; omega, ?_⟩
  · rw [ek, match_exact ⟨a2, a3⟩ ⟨b2, b3⟩ ⟨c2, c3⟩]; simp
  refine mt o1 (by simp; omega) (by simp; omega) fun h2 o2 => ?_
  refine ifF' ?_ ?_
  · have : wordsL (a ++ [46, 42, 46] ++ c) = [a, [42], c] := by
      have := (w_mid (a ++ [46] ++ [42]) c).trans (congrArg (· ++ wordsL c) (w_mid a [42]))
      rw [wordsL_plain a a1, wordsL_plain c c1, wordsL_plain [42] (by decide)] at this
      simpa using this
    rw [ek, this, matchW_cons a3, matchW_cons (by decide), matchW_cons c3]
    simp [matchW]
  refine mt o2 (by decide) (by simp; omega) fun h3 o3 => ?_
  have e3 : wordsL [42, 46, 42, 46, 42] = [[42], [42], [42]] := by decide
  refine ifF' (by rw [e3, ek]; simp [matchW]) ?_
  refine mt o3 (by decide) (by simp; omega) fun h4 o4 => ?_
  have e4 : wordsL [42, 46, 42] = [[42], [42]] := by decide
  refine ifF' (by rw [e4, ek]; simp [matchW]) ?_
  refine mt o4 (by decide) (by simp; omega) fun h5 o5 => ?_
  have e5 : wordsL [42, 46, 42, 46, 42, 46, 42] = [[42], [42], [42], [42]] := by decide
  have e6 : matchW [[42], [42], [42], [42]] [a, b, c] = false := by simp [matchW]
  rw [e5, ek, e6]
  unfold waybilllaw6_TopcStars.j3
  refine ifF rfl ?_
  refine mt o5 (by simp; omega) (by omega) fun h6 o6 => ?_
  refine ifT ?_ ⟨by simp; omega, by simp; omega, ?_⟩
  · rw [ek, match_exact ⟨a2, a3⟩ ⟨b2, b3⟩ ⟨c2, c3⟩, beq_iff_eq, Bool.eq_iff_iff, decide_eq_true_eq, beq_iff_eq]
    constructor
    · intro e; exact words_inj (e.trans ek.symm)
    · intro e; rw [e, ek]
  refine mt o6 (by simp; omega) (by omega) fun h7 o7 => ?_
  have eb : wordsL ([42, 46] ++ b ++ [46, 42]) = [[42], b, [42]] := by
    have := (w_mid ([42] ++ [46] ++ b) [42]).trans (congrArg (· ++ wordsL [42]) (w_mid [42] b))
    rw [wordsL_plain b b1, wordsL_plain [42] (by decide)] at this
    simpa using this
  rw [eb]
  refine refWords.spec (by omega) fun p1 l1 q1 h8 s8 k8 => ⟨_, _, _, rfl, ?_⟩
  have o8 := o7.kept k8
  have el : l1 = (wordsL k).length := by have := s8.1; simpa using this.symm
  have m3 : ∀ ks : List Wd, matchW [[42], b, [42]] ks = (decide (ks.length = 3) && decide (ks[1]? = some b)) := by
    intro ks
    rcases ks with _ | ⟨x, _ | ⟨y, _ | ⟨z, _ | ⟨w, t⟩⟩⟩⟩ <;> simp [matchW, b3]
    exact star_or b2 y
  by_cases h3 : (wordsL k).length = 3
  · refine ifT (by rw [el, h3]; rfl) ?_
    refine refWords.spec (by omega) fun p2 l2 q2 h9 s9 k9 => ⟨_, _, _, rfl, ?_⟩
    have o9 := o8.kept k9
    have hx : ∃ x, (wordsL k)[1]? = some x := ⟨_, List.getElem?_eq_getElem (by omega)⟩
    obtain ⟨x, hx⟩ := hx
    refine ix s9.sl (n := 1) rfl hx ?_
    refine ifT ?_ (aw o9)
    rw [m3, h3, hx]
    rw [beq_iff_eq, Bool.eq_iff_iff]
    simp
  · refine ifF (by rw [el]; simp; omega) ?_
    exact ifT (by rw [m3]; simp [h3]) (aw o8)

theorem stars_loop {a b c k : Wd} (hla : a.length ≤ 60) (hlb : b.length ≤ 60) (hlc : c.length ≤ 60) (hk : k.length ≤ 200) {h0 h : Heap} (o : Ok h0 h) :
    ∀ (fuel i : Nat), (a ++ b ++ c).length - i < fuel → i ≤ (a ++ b ++ c).length → (∀ x ∈ (a ++ b ++ c).take i, sign x = false) → waybilllaw6_TopcStars.L4 (done h0) fuel a b c k i h
  | 0, _, hf, _, _ => absurd hf (Nat.not_lt_zero _)
  | fuel + 1, i, hf, hi, hs => by
    have hlen : (a ++ b ++ c).length = a.length + b.length + c.length := by rw [List.length_append, List.length_append]
    have hlen2 : (a ++ b).length = a.length + b.length := List.length_append
    have hw : IntKind.i64.wrap (IntKind.i64.wrap ((List.length a : Int) + (List.length b : Int)) + (List.length c : Int)) = (((a ++ b ++ c).length : Nat) : Int) := by
      rw [wrapI (n := (List.length a : Int) + (List.length b : Int)) (by omega) (by omega), wrapI (by omega) (by omega), hlen]; omega
    unfold waybilllaw6_TopcStars.L4
    rw [hw]
    by_cases hlt : i < (a ++ b ++ c).length
    · refine ifT (by simp only [decide_eq_true_eq]; omega) ⟨by omega, by omega, by omega, by omega, ?_⟩
      simp only [bd]
      have hb : ∀ n : UInt8, (lb (a ++ b ++ c) i == (n.toNat : Int)) = ((a ++ b ++ c)[i] == n) := by
        intro n
        rw [lb_eq hlt, Bool.eq_iff_iff, beq_iff_eq, beq_iff_eq]
        constructor
        · intro e; exact UInt8.toNat_inj.1 (by simpa using Int.natCast_inj.1 e)
        · intro e; rw [e]
      have b1 : (lb (a ++ b ++ c) i == 46) = ((a ++ b ++ c)[i] == 46) := hb 46
      have b2 : (lb (a ++ b ++ c) i == 42) = ((a ++ b ++ c)[i] == 42) := hb 42
      have b3 : (lb (a ++ b ++ c) i == 35) = ((a ++ b ++ c)[i] == 35) := hb 35
      rw [b1, b2, b3]
      have fin : ∀ v : Bool, v = sign (a ++ b ++ c)[i] → waybilllaw6_TopcStars.j5 (done h0) (waybilllaw6_TopcStars.L4 (done h0) fuel) a b c k i v h := by
        intro v hv
        unfold waybilllaw6_TopcStars.j5
        cases v with
        | true => exact ifT rfl (aw o)
        | false =>
          refine ifF rfl ?_
          simp only [bd]
          rw [wrap_succ (by omega)]
          refine stars_loop hla hlb hlc hk o fuel (i + 1) (by omega) (by omega) fun x hx => ?_
          rw [List.take_succ_eq_append_getElem hlt, List.mem_append, List.mem_singleton] at hx
          rcases hx with hx | rfl
          · exact hs x hx
          · exact hv.symm
      refine ⟨fun e1 => ⟨fun e2 => fin _ ?_, fun e2 => fin _ ?_⟩, fun e1 => fin _ ?_⟩
      · unfold sign; rw [e1, e2]; rfl
      · unfold sign; rw [e1, e2]; rfl
      · unfold sign; rw [e1]; rfl
    · refine ifF (by simp only [decide_eq_false_iff_not]; omega) ?_
      rw [List.take_of_length_le (by omega)] at hs
      exact stars_end (fun x hx => hs x (by simp [hx])) (fun x hx => hs x (by simp [hx])) (fun x hx => hs x (by simp [hx])) hla hlb hlc hk o

theorem TopcStars.law (a b c k : Wd) {h : Heap} (g : G h) : CallsH P F.waybilllaw6_TopcStars [.string (mkS a), .string (mkS b), .string (mkS c), .string (mkS k)] (done h) h := by
  have o := Ok.refl g
  refine waybilllaw6_TopcStars.ok ?_
  unfold waybilllaw6_TopcStars.p0
  have key : ∀ v : Bool, (v = false → a.length ≤ 60 ∧ b.length ≤ 60 ∧ c.length ≤ 60 ∧ k.length ≤ 200) → waybilllaw6_TopcStars.j1 (done h) a b c k v h := by
    intro v hv
    unfold waybilllaw6_TopcStars.j1
    cases v with
    | true => exact ifT rfl (aw o)
    | false =>
      obtain ⟨h1, h2, h3, h4⟩ := hv rfl
      exact ifF rfl ⟨(a ++ b ++ c).length + 1, stars_loop h1 h2 h3 h4 o _ 0 (by omega) (by omega) (by simp)⟩
  refine ⟨fun e1 => ⟨fun e2 => ⟨fun e3 => key _ fun e4 => ?_, fun _ => key _ fun e => by cases e⟩, fun _ => key _ fun e => by cases e⟩, fun _ => key _ fun e => by cases e⟩
  simp at e1 e2 e3 e4
  omega

/-! ### TopcHash -/

theorem hash_j3 {a q k : Wd} (ha : a.length ≤ 100) (hq : q.length ≤ 28) (hk : k.length ≤ 28) {h0 h : Heap} (o : Ok h0 h) : waybilllaw6_TopcHash.j3 (done h0) a q k false h := by
  have hash2 : wordsL [35, 46, 35] = [[35], [35]] := by decide
  have hash1 : wordsL [35] = [[35]] := by decide
  have qe : wordsL (q ++ [46, 35, 46, 35]) = wordsL q ++ [[35], [35]] := by
    have := wordsL_append q [35, 46, 35]
    rw [hash2] at this
    exact this
  have qb : wordsL ([35, 46, 35, 46] ++ q) = [35] :: [35] :: wordsL q := by
    have := wordsL_append [35, 46, 35] q
    rw [hash2] at this
    exact this
  unfold waybilllaw6_TopcHash.j3
  refine ifF rfl ?_
  refine mt o (by decide) (by omega) fun h1 o1 => ?_
  refine ifT (by rw [hash1, matchW_hash1]) ?_
  refine mt o1 (by decide) (by omega) fun h2 o2 => ?_
  refine ifT (by rw [hash2, matchW_hash2, matchW_hash1]) ⟨by simp; omega, ?_⟩
  refine mt o2 (by simp; omega) (by omega) fun h3 o3 => ⟨by simp; omega, ?_⟩
  refine mt o3 (by simp; omega) (by omega) fun h4 o4 => ?_
  refine ifT (by rw [qe, w_eh, matchW_ends2]; simp) ⟨by simp; omega, ?_⟩
  refine mt o4 (by simp; omega) (by omega) fun h5 o5 => ⟨by simp; omega, ?_⟩
  refine mt o5 (by simp; omega) (by omega) fun h6 o6 => ?_
  refine ifT (by rw [qb, w_h, matchW_hash2]; simp) ?_
  refine mt o6 (by omega) (by omega) fun h7 o7 => ?_
  refine ⟨fun e => ⟨by simp; omega, ?_⟩, fun _ => ifT rfl (aw o7)⟩
  have em : matchW (wordsL q) (wordsL k) = true := by simpa using e
  refine mt o7 (by simp; omega) (by omega) fun h8 o8 => ?_
  refine ifT ?_ ⟨by simp; omega, ?_⟩
  · rw [w_eh]; exact matchW_append.2 ⟨wordsL k, [], by simp, em, matchW_hash1 []⟩
  refine mt o8 (by simp; omega) (by omega) fun h9 o9 => ?_
  refine ifT ?_ (aw o9)
  rw [w_h]; exact matchW_hash.2 ⟨[], wordsL k, rfl, em⟩

theorem hash_j2 {a b q k : Wd} (ha : a.length ≤ 100) (hb : b.length ≤ 100) (hq : q.length ≤ 28) (hk : k.length ≤ 28) {h0 h : Heap} (o : Ok h0 h) {v : Bool} (hv : v = true → ∀ x ∈ a ++ b, x ≠ 35) : waybilllaw6_TopcHash.j2 (done h0) a b q k v h := by
  unfold waybilllaw6_TopcHash.j2
  refine ⟨fun e => ?_, fun _ => hash_j3 ha hq hk o⟩
  have hx := hv e
  have pa : matchW (wordsL a) (wordsL a) = true := matchW_self fun w hw e => hx 35 (List.mem_append.2 (.inl (words_sub a w hw 35 (by rw [e]; simp)))) rfl
  have pb : matchW (wordsL b) (wordsL b) = true := matchW_self fun w hw e => hx 35 (List.mem_append.2 (.inr (words_sub b w hw 35 (by rw [e]; simp)))) rfl
  have em : wordsL (a ++ [46, 35, 46] ++ b) = wordsL a ++ ([[35]] ++ wordsL b) := by
    have := (w_mid (a ++ [46] ++ [35]) b).trans (congrArg (· ++ wordsL b) (w_mid a [35]))
    rw [wordsL_plain [35] (by decide)] at this
    simpa using this
  refine ⟨by simp; omega, ?_⟩
  refine mt o (by simp; omega) (by omega) fun h1 o1 => ?_
  refine ifT ?_ ⟨by simp; omega, by simp; omega, by simp; omega, ?_⟩
  · rw [w_eh]; exact matchW_append.2 ⟨wordsL a, [], by simp, pa, matchW_hash1 []⟩
  refine mt o1 (by simp; omega) (by simp; omega) fun h2 o2 => ?_
  refine ifT ?_ ⟨by simp; omega, by simp; omega, by simp; omega, ?_⟩
  · rw [w_eh, w_mid]; exact matchW_append.2 ⟨wordsL a, wordsL b, rfl, pa, matchW_hash1 _⟩
  refine mt o2 (by simp; omega) (by simp; omega) fun h3 o3 => ?_
  refine ifT ?_ ⟨by simp; omega, ?_⟩
  · rw [w_h, w_mid]; exact matchW_hash.2 ⟨wordsL a, wordsL b, rfl, pb⟩
  refine mt o3 (by simp; omega) (by omega) fun h4 o4 => ?_
  refine ifT ?_ ⟨by simp; omega, by simp; omega, by simp; omega, by simp; omega, ?_⟩
  · rw [w_h]; exact matchW_hash.2 ⟨[], wordsL b, rfl, pb⟩
  refine mt o4 (by simp; omega) (by simp; omega) fun h5 o5 => ?_
  have : matchW (wordsL (a ++ [46, 35, 46] ++ b)) (wordsL (a ++ [46] ++ b)) = true := by
    rw [em, w_mid]
    exact matchW_append.2 ⟨wordsL a, wordsL b, rfl, pa, matchW_hash.2 ⟨[], wordsL b, rfl, pb⟩⟩
  rw [this]
  exact hash_j3 ha hq hk o5

theorem hash_loop {a b q k : Wd} (ha : a.length ≤ 100) (hb : b.length ≤ 100) (hq : q.length ≤ 28) (hk : k.length ≤ 28) {h0 h : Heap} (o : Ok h0 h) :
    ∀ (fuel i : Nat) (v : Bool), (a ++ b).length - i < fuel → i ≤ (a ++ b).length → (v = true → ∀ x ∈ (a ++ b).take i, x ≠ 35) → waybilllaw6_TopcHash.L4 (done h0) fuel a b q k v i h
  | 0, _, _, hf, _, _ => absurd hf (Nat.not_lt_zero _)
  | fuel + 1, i, v, hf, hi, hv => by
    have hlen : (a ++ b).length = a.length + b.length := by simp
    have hw : IntKind.i64.wrap ((List.length a : Int) + (List.length b : Int)) = (((a ++ b).length : Nat) : Int) := by
      rw [wrapI (by omega) (by omega), hlen]; omega
    unfold waybilllaw6_TopcHash.L4
    rw [hw]
    by_cases hlt : i < (a ++ b).length
    · refine ifT (by simp only [decide_eq_true_eq]; omega) ⟨by omega, by omega, by omega, ?_⟩
      simp only [bd]
      have fin : ∀ u : Bool, ((a ++ b)[i] = 35 → u = true) → waybilllaw6_TopcHash.j6 (done h0) (waybilllaw6_TopcHash.L4 (done h0) fuel) a b q k v i u h := by
        intro u hu
        unfold waybilllaw6_TopcHash.j6 waybilllaw6_TopcHash.j5
        simp only [bd]
        rw [wrap_succ (by omega)]
        cases u with
        | true => exact ifT rfl (hash_loop ha hb hq hk o fuel (i + 1) false (by omega) (by omega) (by intro e; cases e))
        | false =>
          refine ifF rfl (hash_loop ha hb hq hk o fuel (i + 1) v (by omega) (by omega) fun e x hx => ?_)
          rw [List.take_succ_eq_append_getElem hlt, List.mem_append, List.mem_singleton] at hx
          rcases hx with hx | rfl
          · exact hv e x hx
          · exact fun e2 => by have := hu e2; cases this
      refine ⟨fun _ => fin _ fun e => ?_, fun _ => fin _ fun _ => rfl⟩
      rw [lb_eq hlt, e]; rfl
    · refine ifF (by simp only [decide_eq_false_iff_not]; omega) ?_
      rw [List.take_of_length_le (by omega)] at hv
      exact hash_j2 ha hb hq hk o hv

theorem TopcHash.law (a b p : Wd) {h : Heap} (g : G h) : CallsH P F.waybilllaw6_TopcHash [.string (mkS a), .string (mkS b), .string (mkS p)] (done h) h := by
  have o := Ok.refl g
  refine waybilllaw6_TopcHash.ok ?_
  unfold waybilllaw6_TopcHash.p0
  have key : ∀ v : Bool, (v = false → a.length ≤ 100 ∧ b.length ≤ 100) → waybilllaw6_TopcHash.j1 (done h) a b p v h := by
    intro v hv
    unfold waybilllaw6_TopcHash.j1
    cases v with
    | true => exact ifT rfl (aw o)
    | false =>
      obtain ⟨h1, h2⟩ := hv rfl
      refine ifF rfl ?_
      refine tm o fun q h1' hq o1 => ?_
      refine tm o1 fun k h2' hk o2 => ?_
      exact ⟨(a ++ b).length + 1, hash_loop h1 h2 hq hk o2 _ 0 true (by omega) (by omega) (by simp)⟩
  refine ⟨fun e1 => ⟨fun e2 => key _ fun e3 => ?_, fun _ => key _ fun e => by cases e⟩, fun _ => key _ fun e => by cases e⟩
  simp at e1 e2
  omega

end Go.Proofs.YtpfnfmlibpoleaaDoor.Pr
