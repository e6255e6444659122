/- The document's octets: numbers and texts, read and written; by contracts. -/
import Derived.Test.YtpfnfmlibpoleaaRefForm
set_option linter.unusedVariables false
namespace Go.Proofs.Ytpfnfmlibpoleaa.Pr
open Go Go.Lift Go.Proofs

theorem refNum_loop {K : KT} {p : OA} {l c at' n : Nat} {bs : Oct} {h : Heap} (s : Sl 1 h p l (u8s bs)) (hb : bs.length < 1099511627776) (hn : at' + n ≤ bs.length) (hK : K (.tuple #[.int .u64 (numN ((bs.drop at').take n) : Nat), .bool true]) h) :
    ∀ (fuel i : Nat), n - i < fuel → i ≤ n → waybillref1_Num.L2 K fuel p l c at' n (numN ((bs.drop at').take i) : Nat) i h
  | 0, _, hf, _ => absurd hf (Nat.not_lt_zero _)
  | fuel + 1, i, hf, hi => by
    have el := Sl.len s
    unfold waybillref1_Num.L2
    by_cases hlt : i < n
    · have hlt' : at' + i < bs.length := by omega
      have ew : IntKind.i64.wrap ((at' : Int) + (i : Int)) = ((at' + i : Nat) : Int) := by rw [wrapI (by omega) (by omega)]; omega
      refine ifT (by simp; omega) ⟨by omega, ?_⟩
      refine ix_u8 s ew (List.getElem?_eq_getElem hlt') ?_
      simp only [bd]
      rw [or_step, wsucc (by omega)]
      have en : (numN ((bs.drop at').take i) * 256 + bs[at' + i].toNat) % 18446744073709551616 = numN ((bs.drop at').take (i + 1)) := by
        rw [List.take_succ_eq_append_getElem (show i < (bs.drop at').length by simp; omega), numN, numN, List.foldl_append]
        simp
      rw [en]
      exact refNum_loop s hb hn hK fuel (i + 1) (by omega) (by omega)
    · refine ifF (by simp; omega) ?_
      obtain rfl : i = n := by omega
      exact hK

/-- A number at a place, or none. -/
def numAt (bs : Oct) (at' n : Nat) : Option Nat := if at' + n ≤ bs.length then some (numN ((bs.drop at').take n)) else none

theorem refNum.spec {K : KT} {p : OA} {l c at' n : Nat} {bs : Oct} {h : Heap} (s : Sl 1 h p l (u8s bs)) (hb : bs.length < 1099511627776) (ha : at' < 1099511627776) (hn : n < 1099511627776)
    (h0 : at' ≤ bs.length ∨ 1 ≤ n) (hK : K (.tuple #[.int .u64 (((numAt bs at' n).getD 0 : Nat) : Int), .bool (numAt bs at' n).isSome]) h) : CallsH P F.waybillref1_Num [.slice p l c, .int .i64 at', .int .i64 n] K h := by
  refine waybillref1_Num.ok ?_
  unfold waybillref1_Num.p0 waybillref1_Num.j1
  have el := Sl.len s
  have ew : IntKind.i64.wrap ((l : Int) - (at' : Int)) = (l : Int) - (at' : Int) := wrapI (by omega) (by omega)
  rw [ew]
  refine ifF' (by simp) ?_
  unfold numAt at hK
  by_cases hlt : at' + n ≤ bs.length
  · rw [if_pos hlt] at hK
    refine ifF (by simp; omega) ⟨n + 1, refNum_loop s hb hlt hK _ 0 (by omega) (by omega)⟩
  · rw [if_neg hlt] at hK
    exact ifT (by simp; omega) hK

theorem Put_loop {K : KT} {v b0 : Nat} {h0 : Heap} (hb0 : b0 = h0.size) :
    ∀ (m : Nat) (p : OA) (l c : Nat) (cs : Oct) (h : Heap), m ≤ 8 → cs.length + m < 3298534883328 → Own 1 h p l c (u8s cs) → Fr b0 p → Kept h0 h →
      (∀ p' l' c' h', Own 1 h' p' l' c' (u8s (cs ++ octsN m v)) → Fr b0 p' → Kept h0 h' → K (.slice p' l' c') h') → waybillref1_Put.L1 K (m + 1) v p l c ((m : Int) - 1) h
  | 0, p, l, c, cs, h, hm, hc, o, f, k, hK => by
    unfold waybillref1_Put.L1
    refine ifF (by simp) (hK _ _ _ _ (by simpa [octsN] using o) f k)
  | m + 1, p, l, c, cs, h, hm, hc, o, f, k, hK => by
    unfold waybillref1_Put.L1
    have e : (((m + 1 : Nat) : Int) - 1) = (m : Int) := by omega
    rw [e]
    have e8 : IntKind.u64.wrap (IntKind.i64.wrap ((8 : Int) * (m : Int))) = ((8 * m : Nat) : Int) := by
      rw [wrapI (by omega) (by omega), IntKind.wrap_u64]; omega
    rw [e8]
    refine ifT (by simp) ⟨by omega, ?_⟩
    simp only [bd]
    rw [oct_wrap (by omega)]
    have s : Sl 1 (al h #[.int .u8 ((octN v m).toNat : Int)] T.uint8) (some (top h)) 1 (u8s [octN v m]) := ⟨rfl, (Mem.new h (u8s [octN v m]) T.uint8).1⟩
    have o' := o.kept (Keeps.al _ h #[.int .u8 ((octN v m).toNat : Int)] T.uint8)
    have hbs : b0 ≤ (al h #[.int .u8 ((octN v m).toNat : Int)] T.uint8).size := by rw [al_size]; have := k.size; omega
    refine app o' f hbs (Src.slice s (u8s_one _)) (by simp; omega) fun p' c' h' o2 f2 k2 => ⟨_, _, _, rfl, ?_⟩
    have ew : IntKind.i64.wrap ((m : Int) - 1) = (m : Int) - 1 := wrapI (by omega) (by omega)
    rw [ew]
    subst hb0
    refine Put_loop rfl m p' (l + 1) c' (cs ++ [octN v m]) h' (by omega) (by simp; omega) o2 f2 (Kept.since (k.trans (Keeps.al _ h _ _)) k2) fun p3 l3 c3 h3 o3 f3 k3 => hK p3 l3 c3 h3 ?_ f3 k3
    simpa [octsN] using o3

theorem Put.spec {K : KT} {p : OA} {l c n v : Nat} {bs : Oct} {h : Heap} (s : Sl 1 h p l (u8s bs)) (hb : bs.length < 1099511627776) (h8 : n ≤ 8)
    (hK : ∀ p' l' c' h', Own 1 h' p' l' c' (u8s (bs ++ octsN n v)) → Fr h.size p' → Kept h h' → K (.slice p' l' c') h') : CallsH P F.waybillref1_Put [.slice p l c, .int .i64 n, .int .u64 v] K h := by
  refine waybillref1_Put.ok ?_
  unfold waybillref1_Put.p0
  simp only [bd]
  have o0 : Own 1 (al h #[] T.uint8) (some (top h)) 0 0 (u8s []) := ⟨rfl, Nat.le_refl _, [], rfl, Mem.new h [] T.uint8⟩
  refine app o0 (Fr.top (Nat.le_refl h.size)) (by rw [al_size]; omega) (Src.slice (s.kept (Keeps.al _ h #[] T.uint8)) (u8s_one bs)) (by simp; omega) fun p' c' h' o' f' k' => ⟨_, _, _, rfl, ?_⟩
  have ew : IntKind.i64.wrap ((n : Int) - 1) = (n : Int) - 1 := wrapI (by omega) (by omega)
  rw [ew]
  exact ⟨n + 1, Put_loop rfl n p' (0 + l) c' bs h' h8 (by omega) o' f' (Kept.since (Keeps.al _ h _ _) k') hK⟩

theorem refShort.spec {K : KT} {p : OA} {l c : Nat} {bs cs : Oct} {h : Heap} (s : Sl 1 h p l (u8s bs)) (hb : bs.length < 1099511627776) (hc : cs.length < 1099511627776)
    (hK : ∀ p' l' c' h', Own 1 h' p' l' c' (u8s (bs ++ octsN 1 cs.length ++ cs)) → Fr h.size p' → Kept h h' → K (.slice p' l' c') h') : CallsH P F.waybillref1_Short [.slice p l c, .string (mkS cs)] K h := by
  refine waybillref1_Short.ok ?_
  unfold waybillref1_Short.p0
  rw [wrap_len (by omega)]
  refine Put.spec (n := 1) s hb (by omega) fun p' l' c' h' o f k => ⟨_, _, _, rfl, ?_⟩
  refine apps o f k.size (by simp [octsN_length]; omega) fun p2 l2 c2 h2 o2 f2 k2 => ⟨_, _, _, rfl, ?_⟩
  exact hK p2 l2 c2 h2 o2 f2 (Kept.since k k2)

theorem refLong.spec {K : KT} {p q : OA} {l c m d : Nat} {bs cs : Oct} {h : Heap} (s : Sl 1 h p l (u8s bs)) (t : Sl 1 h q m (u8s cs)) (hb : bs.length < 1099511627776) (hc : cs.length < 1099511627776)
    (hK : ∀ p' l' c' h', Own 1 h' p' l' c' (u8s (bs ++ octsN 4 cs.length ++ cs)) → Fr h.size p' → Kept h h' → K (.slice p' l' c') h') : CallsH P F.waybillref1_Long [.slice p l c, .slice q m d] K h := by
  refine waybillref1_Long.ok ?_
  unfold waybillref1_Long.p0
  obtain rfl := Sl.len t
  rw [wrap_len (by omega)]
  refine Put.spec (n := 4) s hb (by omega) fun p' l' c' h' o f k => ⟨_, _, _, rfl, ?_⟩
  refine app o f k.size (Src.slice (t.kept k) (u8s_one cs)) (by simp [octsN_length]; omega) fun p2 c2 h2 o2 f2 k2 => ⟨_, _, _, rfl, ?_⟩
  exact hK _ _ _ _ o2 f2 (Kept.since k k2)

/-- A text at a place, behind its length: it, and where it ends. -/
def textAt (bs : Oct) (at' n : Nat) : Option (Oct × Nat) := match numAt bs at' n with
  | none => none
  | some v => if at' + n + v ≤ bs.length then some ((bs.drop (at' + n)).take v, at' + n + v) else none

theorem refText.spec {K : KT} {p : OA} {l c at' n : Nat} {bs : Oct} {h : Heap} (s : Sl 1 h p l (u8s bs)) (hlc : l ≤ c) (hb : bs.length < 1099511627776) (ha : at' ≤ bs.length) (hn : n ≤ 8)
    (h1 : textAt bs at' n = none → K (.tuple #[.slice none 0 0, .int .i64 0, .bool false]) h)
    (h2 : ∀ q m d t e, textAt bs at' n = some (t, e) → Sl 1 h q m (u8s t) → m ≤ d → (∀ a, q = some a → ∃ b, p = some b ∧ b.block = a.block) → K (.tuple #[.slice q m d, .int .i64 (e : Nat), .bool true]) h) :
    CallsH P F.waybillref1_Text [.slice p l c, .int .i64 at', .int .i64 n] K h := by
  refine waybillref1_Text.ok ?_
  unfold waybillref1_Text.p0
  have el := Sl.len s
  refine refNum.spec s hb (by omega) (by omega) (.inl ha) ⟨_, _, rfl, ?_⟩
  have miss : textAt bs at' n = none → ∀ v : Int, waybillref1_Text.j1 K p l c at' n v true h := by
    intro e v
    unfold waybillref1_Text.j1
    exact ifT rfl (h1 e)
  cases hx : numAt bs at' n with
  | none => exact ifT' rfl (miss (by simp [textAt, hx]) _)
  | some v =>
    have hin : at' + n ≤ bs.length := by
      unfold numAt at hx
      split at hx
      · assumption
      · cases hx
    have hv : v < 18446744073709551616 := by
      unfold numAt at hx
      rw [if_pos hin] at hx
      cases hx
      exact numN_lt _
    refine ifF' rfl ?_
    simp only [Option.getD_some]
    have e1 : IntKind.u64.wrap (IntKind.i64.wrap (IntKind.i64.wrap ((l : Int) - (at' : Int)) - (n : Int))) = ((l - at' - n : Nat) : Int) := by
      rw [wrapI (n := (l : Int) - (at' : Int)) (by omega) (by omega), wrapI (by omega) (by omega), IntKind.wrap_u64]; omega
    rw [e1]
    by_cases hg : at' + n + v ≤ bs.length
    · rw [decide_eq_false (by omega)]
      have ht : textAt bs at' n = some ((bs.drop (at' + n)).take v, at' + n + v) := by simp [textAt, hx, hg]
      unfold waybillref1_Text.j1
      refine ifF rfl ?_
      simp only [bd]
      have e2 : IntKind.i64.wrap ((at' : Int) + (n : Int)) = ((at' + n : Nat) : Int) := by rw [wrapI (by omega) (by omega)]; omega
      have e3 : IntKind.i64.wrap (v : Int) = (v : Int) := wrapI (by omega) (by omega)
      rw [e2, e3]
      have e4 : IntKind.i64.wrap (((at' + n : Nat) : Int) + (v : Int)) = ((at' + n + v : Nat) : Int) := by rw [wrapI (by omega) (by omega)]; omega
      rw [e4]
      refine ⟨⟨by omega, by omega⟩, ⟨by omega, by omega⟩, ?_⟩
      simp only [Int.toNat_natCast]
      have sd := Lift.Sl.drop s hlc (n := at' + n) (by omega)
      have st := Lift.Sl.take sd (n := v) (by omega)
      rw [u8s_drop, u8s_take] at st
      have ev : at' + n + v - (at' + n) = v := by omega
      rw [ev]
      exact h2 _ _ _ _ _ ht st (by omega) fun a e => slA_block e
    · rw [decide_eq_true (by omega)]
      exact miss (by simp [textAt, hx]; omega) _

end Go.Proofs.Ytpfnfmlibpoleaa.Pr
