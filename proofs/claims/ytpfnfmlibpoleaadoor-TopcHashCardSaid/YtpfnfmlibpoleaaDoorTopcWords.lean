/- Words, of the program and of the document: each gives the row of words; for any text that is not great. -/
import Derived.Test.YtpfnfmlibpoleaaDoorTopcPlain
import Derived.Test.YtpfnfmlibpoleaaDoorShelf
import Derived.Test.YtpfnfmlibpoleaaDoorPrTopc
import Derived.Test.YtpfnfmlibpoleaaDoorPrRef1
import Derived.Test.YtpfnfmlibpoleaaDoorLiftS
set_option linter.unusedVariables false
namespace Go.Proofs.YtpfnfmlibpoleaaDoor.Pr
open Go Go.Lift Go.Proofs Pl

/-- A text as a value. -/
def strV (s : Wd) : Value := .string (mkS s)
/-- What the library's search asks of the heap. -/
def G (h : Heap) : Prop := ∃ m, hcell h ⟨0, 0, none⟩ = some (.int .i64 m)
theorem G.kept {h h' : Heap} (g : G h) (k : Kept h h') : G h' := let ⟨m, e⟩ := g; ⟨m, k.cell e fun x => x⟩

theorem sl_string : SlT P T.sl_string T.string 1 16 [strV []] := slT (by kernel_rfl) (by kernel_rfl)
theorem sl_bool : SlT P T.sl_bool T.bool 1 1 [.bool false] := slT (by kernel_rfl) (by kernel_rfl)

theorem index_dot : ∀ s : Wd, (Lib.index s [46] = -1 ∧ wordsL s = [s]) ∨ ∃ i : Nat, Lib.index s [46] = i ∧ wordsL s = s.take i :: wordsL (s.drop (i + 1)) ∧ i < s.length
  | [] => .inl ⟨rfl, rfl⟩
  | c :: t => by
    by_cases hc : c = 46
    · subst hc
      exact .inr ⟨0, by simp [Lib.index, List.isPrefixOf], by simp [wordsL], by simp⟩
    · have hp : List.isPrefixOf [(46 : UInt8)] (c :: t) = false := by simp [List.isPrefixOf]; exact fun e => hc e.symm
      rcases index_dot t with ⟨h1, h2⟩ | ⟨i, h1, h2, h3⟩
      · exact .inl ⟨by simp [Lib.index, hp, h1], wordsL_cons hc h2⟩
      · refine .inr ⟨i + 1, ?_, ?_, by simp; omega⟩
        · simp [Lib.index, hp, h1]
        · rw [wordsL_cons hc h2]; rfl

theorem split_words : ∀ (n : Nat) (s : Wd), s.length < n → Lib.splitK [46] 0 (Lib.count s [46]) s = wordsL s ∧ Lib.count s [46] + 1 = (wordsL s).length
  | 0, s, h => absurd h (Nat.not_lt_zero _)
  | n + 1, s, h => by
    rcases index_dot s with ⟨h1, h2⟩ | ⟨i, h1, h2, h3⟩
    · rw [Lib.count_miss h1, h2]
      exact ⟨rfl, rfl⟩
    · have hd := split_words n (s.drop (i + 1)) (by simp; omega)
      have hm : ¬ (Lib.index s [46] == -1) = true := fun e => by have := beq_iff_eq.1 e; omega
      have e : (Lib.index s [46]).toNat = i := by omega
      rw [Lib.count_hit (by simp) h1, Nat.add_comm 1]
      simp only [List.length_cons, List.length_nil, Nat.zero_add]
      refine ⟨?_, ?_⟩
      · rw [Lib.splitK, if_neg hm, e, h2]
        simp only [Nat.add_zero, List.length_cons, List.length_nil, Nat.zero_add]
        rw [hd.1]
      · rw [h2, List.length_cons, ← hd.2]

theorem Words.spec {K : KT} {s : Wd} {h : Heap} (g : G h) (hs : s.length < 1000000) (hK : ∀ p l c h', Own 1 h' p l c ((wordsL s).map strV) → Kept h h' → K (.slice p l c) h') :
    CallsH P F.topc_Words [.string (mkS s)] K h := by
  refine topc_Words.ok ?_
  unfold topc_Words.p0
  obtain ⟨m, hm⟩ := g
  refine calls_of (by kernel_rfl) fun w hw => ?_
  have hsz : (mkS s).size < 4294967281 := by simp [mkS, ByteArray.size]; omega
  refine (Tryd.strings_Split (mkS s) (mkS [46]) m w hsz (by rw [cell_eq, hw]; exact hm) (by decide)).mono fun e w' ⟨he, hw'⟩ => ?_
  have hd := split_words _ s (Nat.lt_succ_self _)
  have hc : Lib.countB (mkS s) (mkS [46]) = Lib.count s [46] := rfl
  have hp : (Lib.splitB (mkS [46]) 0 (Lib.countB (mkS s) (mkS [46])) (mkS s)).map Value.string = (wordsL s).map strV := by
    have := Lib.splitB_data (mkS [46]) 0 (Lib.countB (mkS s) (mkS [46])) (mkS s)
    have h2 : Lib.splitK (mkS [46]).data.toList 0 (Lib.countB (mkS s) (mkS [46])) (mkS s).data.toList = wordsL s := hd.1
    rw [h2] at this
    rw [← this, List.map_map]
    rfl
  rw [hp] at hw'
  rw [hc, hd.2] at he
  subst hw'
  refine ⟨_, he, ⟨_, _, _, rfl, ?_⟩, ⟨rfl, rfl, rfl⟩⟩
  subst hw
  refine hK _ _ _ _ ⟨by simp, Nat.le_refl _, [], by simp, ?_⟩ (Keeps.al _ w.heap _ T.string)
  rw [List.append_nil]
  exact Mem.new w.heap _ T.string

/-! ### The document's -/

def part (s : Wd) (fr i : Nat) : Wd := (s.take i).drop fr

theorem take_drop_comm (s : Wd) (fr i : Nat) : part s fr i = (s.drop fr).take (i - fr) := by
  unfold part
  rw [List.drop_take]

/-- How the document's words grow. -/
def Inv (s : Wd) (fr i : Nat) (out : List Wd) : Prop :=
  (i ≤ s.length ∧ fr ≤ i ∧ out ++ wordsL (s.drop fr) = wordsL s ∧ 46 ∉ part s fr i) ∨ (i = s.length + 1 ∧ out = wordsL s)

theorem inv_cut {s : Wd} {fr i : Nat} {out : List Wd} (v : Inv s fr i out) (hi : i ≤ s.length) (hc : i = s.length ∨ s[i]? = some 46) : Inv s (i + 1) (i + 1) (out ++ [part s fr i]) := by
  rcases v with ⟨_, h2, h3, h4⟩ | ⟨h, _⟩
  · have hp := take_drop_comm s fr i
    rcases Nat.lt_or_ge i s.length with hlt | hge
    · have hc : s[i]? = some 46 := by rcases hc with h | h; omega; exact h
      rw [List.getElem?_eq_getElem hlt, Option.some.injEq] at hc
      left
      refine ⟨by omega, Nat.le_refl _, ?_, by simp [part]⟩
      have e : s.drop fr = part s fr i ++ 46 :: s.drop (i + 1) := by
        rw [hp]
        conv => lhs; rw [← List.take_append_drop (i - fr) (s.drop fr), List.drop_drop]
        rw [show fr + (i - fr) = i by omega, List.drop_eq_getElem_cons hlt, hc]
      rw [← h3, e, wordsL_append, wordsL_plain _ h4, List.append_assoc]
    · have hil : i = s.length := by omega
      right
      refine ⟨by omega, ?_⟩
      have e : s.drop fr = part s fr i := by
        rw [hp, List.take_of_length_le (by simp; omega)]
      rw [← h3, e, wordsL_plain _ h4]
  · omega

theorem inv_on {s : Wd} {fr i : Nat} {out : List Wd} (v : Inv s fr i out) (hi : i < s.length) (hc : s[i]? ≠ some 46) : Inv s fr (i + 1) out := by
  rcases v with ⟨_, h2, h3, h4⟩ | ⟨h, _⟩
  · left
    refine ⟨by omega, by omega, h3, ?_⟩
    rw [List.getElem?_eq_getElem hi] at hc
    unfold part at h4 ⊢
    rw [List.take_succ_eq_append_getElem hi, List.drop_append_of_le_length (by simp; omega)]
    simp only [List.mem_append, List.mem_singleton, not_or]
    exact ⟨h4, fun e => hc (by rw [e])⟩
  · omega

theorem lb_eq {s : Wd} {i : Nat} (hi : i < s.length) : lb s i = (s[i].toNat : Int) := by
  simp [lb, List.getD, hi]

theorem lb_dot {s : Wd} {i : Nat} (hi : i < s.length) : (lb s i == 46) = (s[i]? == some 46) := by
  rw [lb_eq hi, List.getElem?_eq_getElem hi, Bool.eq_iff_iff, beq_iff_eq, beq_iff_eq, Option.some.injEq]
  constructor
  · intro e; exact UInt8.toNat_inj.1 (by simpa using Int.natCast_inj.1 e)
  · intro e; rw [e]; rfl

theorem refWords_loop {K : KT} {s : Wd} {h0 : Heap} (hs : s.length < 1000000) (hK : ∀ p l c h', Own 1 h' p l c ((wordsL s).map strV) → Kept h0 h' → K (.slice p l c) h') :
    ∀ (n : Nat) (p : OA) (l c : Nat) (fr i : Nat) (out : List Wd) (h : Heap), s.length + 1 - i < n → Inv s fr i out → Own 1 h p l c (out.map strV) → Fr h0.size p → Kept h0 h →
      waybillref1_Words.L1 K n s p l c fr i h
  | 0, _, _, _, _, _, _, _, hn, _, _, _, _ => absurd hn (Nat.not_lt_zero _)
  | n + 1, p, l, c, fr, i, out, h, hn, hv, ho, hf, hk => by
    have hll : l = out.length := by have := ho.1; simp at this; exact this.symm
    unfold waybillref1_Words.L1
    by_cases hi : i ≤ s.length
    · have hol : out.length ≤ i ∧ fr ≤ i := by
        rcases hv with ⟨_, h2, h3, h4⟩ | ⟨h, _⟩
        · have e1 := congrArg List.length h3
          have e2 := words_length (s.drop fr)
          have e3 := words_length s
          have e4 : s.count 46 = (s.take fr).count 46 + (s.drop fr).count 46 := by rw [← List.count_append, List.take_append_drop]
          have e5 : (s.take fr).count 46 ≤ (s.take fr).length := List.count_le_length ..
          simp only [List.length_append, List.length_take] at e1 e5
          omega
        · omega
      have step : ∀ b : Bool, (b = true → i = s.length ∨ s[i]? = some 46) → (b = false → i < s.length ∧ s[i]? ≠ some 46) → waybillref1_Words.j3 K (waybillref1_Words.L1 K n) s p l c fr i b h := by
        intro b hb1 hb2
        unfold waybillref1_Words.j3 waybillref1_Words.j2
        cases b with
        | true =>
          refine ifT rfl ⟨by simp [inB]; omega, by simp [inB]; omega, ?_⟩
          simp only [bd, Int.toNat_natCast]
          have hw : IntKind.i64.wrap ((i : Int) + 1) = ((i + 1 : Nat) : Int) := by rw [wrapI (by omega) (by omega)]; omega
          rw [hw]
          have hsrc : Sl 1 (al h #[.string (mkS (part s fr i))] T.string) (some (top h)) 1 [strV (part s fr i)] := ⟨rfl, (Mem.new h [strV (part s fr i)] T.string).1⟩
          have ho' := ho.kept (Keeps.al _ h #[.string (mkS (part s fr i))] T.string)
          refine append_ok sl_string rfl (d := .slice T.string) (by kernel_rfl) (fun k e => by cases e) ho' (Src.slice hsrc (by simp [strV, one])) (by omega) (by omega) ?_
          intro p' c' h' ho2 hp' hk2
          refine ⟨_, _, _, rfl, ?_⟩
          have hk3 : Kept h0 h' := (hk.trans (Keeps.al _ h #[.string (mkS (part s fr i))] T.string)).trans' hk2 fun k hk ⟨a, e1, e2⟩ => by have := hf a e1; omega
          refine refWords_loop hs hK n p' (l + 1) c' (i + 1) (i + 1) (out ++ [part s fr i]) h' (by omega) (inv_cut hv hi (hb1 rfl)) (by simpa using ho2) ?_ hk3
          rcases hp' with rfl | rfl
          · exact hf
          · exact Fr.top (Nat.le_trans hk.size (by rw [al_size]; omega))
        | false =>
          refine ifF rfl ?_
          simp only [bd]
          have hw : IntKind.i64.wrap ((i : Int) + 1) = ((i + 1 : Nat) : Int) := by rw [wrapI (by omega) (by omega)]; omega
          rw [hw]
          exact refWords_loop hs hK n p l c fr (i + 1) out h (by omega) (inv_on hv (hb2 rfl).1 (hb2 rfl).2) ho hf hk
      refine ifT (by simp; omega) ?_
      by_cases hl : i = s.length
      · exact ifT' (by simp [hl]) (step true (fun _ => .inl hl) fun e => by cases e)
      · have hlt : i < s.length := by omega
        refine ifF' (by simp; omega) ⟨by omega, by omega, ?_⟩
        rw [lb_dot hlt]
        refine step _ (fun e => .inr (by simpa using e)) fun e => ⟨hlt, by simpa using e⟩
    · refine ifF (by simp; omega) ?_
      rcases hv with ⟨h, _⟩ | ⟨_, rfl⟩
      · omega
      · exact hK p l c h ho hk

theorem refWords.spec {K : KT} {s : Wd} {h : Heap} (hs : s.length < 1000000) (hK : ∀ p l c h', Own 1 h' p l c ((wordsL s).map strV) → Kept h h' → K (.slice p l c) h') :
    CallsH P F.waybillref1_Words [.string (mkS s)] K h := by
  refine waybillref1_Words.ok ?_
  unfold waybillref1_Words.p0
  exact ⟨s.length + 2, refWords_loop hs hK _ none 0 0 0 0 [] h (by omega) (.inl ⟨by omega, by omega, by simp, by simp [part]⟩) (Own.nil _ _) (Fr.none _) (Kept.refl h)⟩

end Go.Proofs.YtpfnfmlibpoleaaDoor.Pr
