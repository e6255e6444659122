/- What the wire's octets do: each function's contract; for rows of octets that are not great. -/
import Derived.Test.YtpfnfmlibpoleaaPrOcts
import Derived.Test.YtpfnfmlibpoleaaPrSlices
import Derived.Test.YtpfnfmlibpoleaaLiftB
set_option linter.unusedVariables false
namespace Go.Proofs.Ytpfnfmlibpoleaa.Pr
open Go Go.Lift Go.Proofs

abbrev Oct := List UInt8

theorem sl_uint8 : SlT P T.sl_uint8 T.uint8 1 1 [.int .u8 0] := slT (by kernel_rfl) (by kernel_rfl)
theorem u_sl : P.underlying T.sl_uint8 = some (.slice T.uint8) := by kernel_rfl
theorem u_u8 : P.underlying T.uint8 = some (.int .u8) := by kernel_rfl
theorem u_str : P.underlying T.string = some .string := by kernel_rfl

/-- append, of octets. -/
theorem app {b : Nat} {h : Heap} {p : OA} {l c n : Nat} {bs ws : Oct} {xv : Value} (o : Own 1 h p l c (u8s bs)) (f : Fr b p) (hbh : b ≤ h.size) (s : Src P 1 h xv n (u8s ws)) (hl : bs.length + ws.length < 4398046511104) {K : KT}
    (hK : ∀ p' c' h', Own 1 h' p' (l + n) c' (u8s (bs ++ ws)) → Fr b p' → Keeps (fun i => b ≤ i) h h' → K (.slice p' (l + n) c') h') :
    SemH P (Builtin.append_ #[T.sl_uint8, T.sl_uint8] T.sl_uint8 #[.slice p l c, xv]) K h := by
  have h1 := o.1
  have h2 := s.1
  simp only [u8s_length, Nat.mul_one] at h1 h2
  refine append_fr sl_uint8 rfl u_sl (fun k e => by cases e) o f hbh s (by omega) (by omega) fun p' c' h' o' f' k' => hK p' c' h' ?_ f' k'
  have e : u8s (bs ++ ws) = u8s bs ++ u8s ws := by simp [u8s]
  rw [e]
  exact o'

theorem apps {b : Nat} {h : Heap} {p : OA} {l c : Nat} {bs ws : Oct} (o : Own 1 h p l c (u8s bs)) (f : Fr b p) (hbh : b ≤ h.size) (hl : bs.length + ws.length < 4398046511104) {K : KT}
    (hK : ∀ p' l' c' h', Own 1 h' p' l' c' (u8s (bs ++ ws)) → Fr b p' → Keeps (fun i => b ≤ i) h h' → K (.slice p' l' c') h') :
    SemH P (Builtin.append_ #[T.sl_uint8, T.string] T.sl_uint8 #[.slice p l c, .string (mkS ws)]) K h := by
  have h1 := o.1
  simp only [u8s_length, Nat.mul_one] at h1
  refine append_fr sl_uint8 rfl u_str (fun k e => by cases e) o f hbh (Src.str ws) (by omega) (by omega) fun p' c' h' o' f' k' => hK p' _ c' h' ?_ f' k'
  have e : u8s (bs ++ ws) = u8s bs ++ u8s ws := by simp [u8s]
  rw [e]
  exact o'

theorem Own.len {h : Heap} {p : OA} {l c : Nat} {bs : Oct} (o : Own 1 h p l c (u8s bs)) : l = bs.length := by
  have := o.1
  simp only [u8s_length, Nat.mul_one] at this
  exact this.symm
theorem Sl.len {h : Heap} {p : OA} {l : Nat} {bs : Oct} (o : Sl 1 h p l (u8s bs)) : l = bs.length := by
  have := o.1
  simp only [u8s_length, Nat.mul_one] at this
  exact this.symm

theorem u8s_take (bs : Oct) (n : Nat) : (u8s bs).take n = u8s (bs.take n) := by simp [u8s]
theorem u8s_drop (bs : Oct) (n : Nat) : (u8s bs).drop n = u8s (bs.drop n) := by simp [u8s]
theorem u8s_ne {bs : Oct} (h : u8s bs ≠ []) : bs ≠ [] := by intro e; subst e; exact h rfl

/-! ### Copies and widths -/

theorem Clone.spec {K : KT} {p : OA} {l c : Nat} {bs : Oct} {h : Heap} (s : Sl 1 h p l (u8s bs)) (hb : bs.length < 2199023255552)
    (hK : ∀ p' l' c' h', Own 1 h' p' l' c' (u8s bs) → Fr h.size p' → Kept h h' → K (.slice p' l' c') h') : CallsH P F.slices_Clone_byte_byte [.slice p l c] K h := by
  refine slices_Clone_byte_byte.ok ?_
  unfold slices_Clone_byte_byte.p0
  cases p with
  | none =>
    refine ifT rfl ?_
    have e := s.2
    simp only [u8s, List.map_eq_nil_iff] at e
    subst e
    exact hK _ _ _ _ (Own.nil 1 h) (Fr.none _) (Kept.refl h)
  | some a =>
    refine ifF rfl ?_
    simp only [bd]
    have o0 : Own 1 (al h #[] T.uint8) (some (top h)) 0 0 (u8s []) := ⟨rfl, Nat.le_refl _, [], rfl, Mem.new h [] T.uint8⟩
    have s' := s.kept (Keeps.al _ h #[] T.uint8)
    refine app o0 (Fr.top (Nat.le_refl h.size)) (by rw [al_size]; omega) (Src.slice s' (u8s_one bs)) (by simp; omega) fun p' c' h' o' f' k' => ⟨_, _, _, rfl, ?_⟩
    exact hK _ _ _ _ o' f' (Kept.since (Keeps.al _ h _ _) k')

theorem width.spec {K : KT} {n : Int} {h : Heap} (h1 : 1 ≤ n) (h8 : n ≤ 8) (hK : K (.int .i64 n) h) : CallsH P F.octs_width [.int .i64 n] K h := by
  refine octs_width.ok ?_
  unfold octs_width.p0
  have e : (if (8 : Int) < (if (1 : Int) > n then 1 else n) then 8 else (if (1 : Int) > n then 1 else n)) = n := by
    rw [if_neg (by omega), if_neg (by omega)]
  simp only [bd, e]
  exact hK

theorem shift_amount {k : Nat} (hk : k < 8) : IntKind.u64.wrap (shlI .i64 (k : Int) 3) = ((8 * k : Nat) : Int) := by
  have : (min (3 : Int).toNat IntKind.i64.bits) = 3 := rfl
  simp only [shlI, this]
  rw [wrapI (by omega) (by omega), IntKind.wrap_u64]
  omega

theorem Int_loop {K : KT} {v b0 : Nat} {h0 : Heap} {bs : Oct} (hb0 : b0 = h0.size) :
    ∀ (m : Nat) (p : OA) (l c : Nat) (cs : Oct) (h : Heap), m ≤ 8 → cs.length + m < 3298534883328 → Own 1 h p l c (u8s cs) → Fr b0 p → Kept h0 h →
      (∀ p' l' c' h', Own 1 h' p' l' c' (u8s (cs ++ octsN m v)) → Fr b0 p' → Kept h0 h' → K (.slice p' l' c') h') → octs_Int.L1 K (m + 1) p l c v ((m : Int) - 1) h
  | 0, p, l, c, cs, h, hm, hc, o, f, k, hK => by
    unfold octs_Int.L1
    refine ifF (by simp) (hK _ _ _ _ (by simpa [octsN] using o) f k)
  | m + 1, p, l, c, cs, h, hm, hc, o, f, k, hK => by
    unfold octs_Int.L1
    have e : (((m + 1 : Nat) : Int) - 1) = (m : Int) := by omega
    rw [e]
    refine ifT (by simp) ⟨by omega, by rw [shift_amount (by omega)]; omega, ?_⟩
    simp only [bd]
    rw [shift_amount (by omega), oct_wrap (by omega)]
    have s : Sl 1 (al h #[.int .u8 ((octN v m).toNat : Int)] T.uint8) (some (top h)) 1 (u8s [octN v m]) := ⟨rfl, (Mem.new h (u8s [octN v m]) T.uint8).1⟩
    have o' := o.kept (Keeps.al _ h #[.int .u8 ((octN v m).toNat : Int)] T.uint8)
    have hbs : b0 ≤ (al h #[.int .u8 ((octN v m).toNat : Int)] T.uint8).size := by rw [al_size]; have := k.size; omega
    refine app o' f hbs (Src.slice s (u8s_one _)) (by simp; omega) fun p' c' h' o2 f2 k2 => ⟨_, _, _, rfl, ?_⟩
    have ew : IntKind.i64.wrap ((m : Int) - 1) = (m : Int) - 1 := wrapI (by omega) (by omega)
    rw [ew]
    subst hb0
    refine Int_loop rfl (bs := bs) m p' (l + 1) c' (cs ++ [octN v m]) h' (by omega) (by simp; omega) o2 f2 (Kept.since (k.trans (Keeps.al _ h _ _)) k2) fun p3 l3 c3 h3 o3 f3 k3 => hK p3 l3 c3 h3 ?_ f3 k3
    simpa [octsN] using o3

theorem Int.spec {K : KT} {p : OA} {l c n v : Nat} {bs : Oct} {h : Heap} (s : Sl 1 h p l (u8s bs)) (hb : bs.length < 1099511627776) (h1 : 1 ≤ n) (h8 : n ≤ 8)
    (hK : ∀ p' l' c' h', Own 1 h' p' l' c' (u8s (bs ++ octsN n v)) → Fr h.size p' → Kept h h' → K (.slice p' l' c') h') : CallsH P F.octs_Int [.slice p l c, .int .i64 n, .int .u64 v] K h := by
  refine octs_Int.ok ?_
  unfold octs_Int.p0
  refine Clone.spec s (by omega) fun p' l' c' h' o f k => ⟨_, _, _, rfl, ?_⟩
  refine width.spec (by omega) (by omega) ⟨_, rfl, ?_⟩
  simp only [bd]
  have ew : IntKind.i64.wrap ((n : Int) - 1) = (n : Int) - 1 := wrapI (by omega) (by omega)
  rw [ew]
  exact ⟨n + 1, Int_loop rfl (bs := bs) n p' l' c' bs h' h8 (by omega) o f k hK⟩

theorem wrap_len {n : Nat} (h : n < 18446744073709551616) : IntKind.u64.wrap (n : Int) = (n : Int) := by rw [IntKind.wrap_u64]; omega

theorem Long.spec {K : KT} {p q : OA} {l c m d : Nat} {bs cs : Oct} {h : Heap} (s : Sl 1 h p l (u8s bs)) (t : Sl 1 h q m (u8s cs)) (hb : bs.length < 1099511627776) (hc : cs.length < 1099511627776)
    (hK : ∀ p' l' c' h', Own 1 h' p' l' c' (u8s (bs ++ octsN 4 cs.length ++ cs)) → Fr h.size p' → Kept h h' → K (.slice p' l' c') h') : CallsH P F.octs_Long [.slice p l c, .slice q m d] K h := by
  refine octs_Long.ok ?_
  unfold octs_Long.p0
  obtain rfl := Sl.len t
  rw [wrap_len (by omega)]
  refine Int.spec (n := 4) s hb (by omega) (by omega) fun p' l' c' h' o f k => ⟨_, _, _, rfl, ?_⟩
  refine app o f k.size (Src.slice (t.kept k) (u8s_one cs)) (by simp [octsN_length]; omega) fun p2 c2 h2 o2 f2 k2 => ⟨_, _, _, rfl, ?_⟩
  exact hK _ _ _ _ o2 f2 (Kept.since k k2)

theorem Short.spec {K : KT} {p : OA} {l c : Nat} {bs cs : Oct} {h : Heap} (s : Sl 1 h p l (u8s bs)) (hb : bs.length < 1099511627776)
    (hK : ∀ p' l' c' h', Own 1 h' p' l' c' (u8s (if cs.length > 255 then bs else bs ++ octsN 1 cs.length ++ cs)) → Fr h.size p' → Kept h h' → K (.tuple #[.slice p' l' c', .bool (decide (cs.length ≤ 255))]) h') :
    CallsH P F.octs_Short [.slice p l c, .string (mkS cs)] K h := by
  refine octs_Short.ok ?_
  unfold octs_Short.p0
  by_cases hl : cs.length > 255
  · refine ifT (by simp; omega) ?_
    refine Clone.spec s (by omega) fun p' l' c' h' o f k => ⟨_, _, _, rfl, ?_⟩
    have := hK p' l' c' h' (by rw [if_pos hl]; exact o) f k
    rw [decide_eq_false (by omega)] at this
    exact this
  · refine ifF (by simp; omega) ?_
    rw [wrap_len (by omega)]
    refine Int.spec (n := 1) s hb (by omega) (by omega) fun p' l' c' h' o f k => ⟨_, _, _, rfl, ?_⟩
    refine apps o f k.size (by simp [octsN_length]; omega) fun p2 l2 c2 h2 o2 f2 k2 => ⟨_, _, _, rfl, ?_⟩
    have := hK p2 l2 c2 h2 (by rw [if_neg hl]; exact o2) f2 (Kept.since k k2)
    rw [decide_eq_true (by omega)] at this
    exact this

/-! ### Reading -/

/-- A reader's state: what is left, and whether something was not there. -/
abbrev RS := Oct × Bool

def takeP (n : Nat) (s : RS) : Oct × RS := if s.2 = true ∨ s.1.length < n then ([], [], true) else (s.1.take n, s.1.drop n, false)

/-- The reader at r: what it reads lies below b0, the reader itself does not. -/
def Rd (b0 : Nat) (h : Heap) (r : Addr) (s : RS) : Prop :=
  s.1.length < 1099511627776 ∧ b0 ≤ r.block ∧ ∃ (p : OA) (l c : Nat), Mem h r [.slice p l c, .bool s.2] ∧ Sl 1 h p l (u8s s.1) ∧ l ≤ c ∧ ∀ a, p = some a → s.1 ≠ [] → a.block < b0

abbrev At1 (r : Addr) : Nat → Prop := fun i => i = r.block

theorem Rd.keeps {b0 : Nat} {S : Nat → Prop} {h h' : Heap} {r : Addr} {s : RS} (d : Rd b0 h r s) (k : Keeps S h h') (hS : ∀ i, i < h.size → S i → b0 ≤ i ∧ i ≠ r.block) : Rd b0 h' r s := by
  obtain ⟨h0, hb, p, l, c, m, sl, hl, hd⟩ := d
  have hr : r.block < h.size := m.1.lt (by simp)
  refine ⟨h0, hb, p, l, c, m.keeps k fun _ hs => (hS _ hr hs).2 rfl, sl.keeps' k fun a e hn hs => ?_, hl, hd⟩
  have := hd a e (u8s_ne hn)
  have := (hS _ (Lift.Sl.lt sl hn a e) hs).1
  omega

theorem Rd.kept {b0 : Nat} {h h' : Heap} {r : Addr} {s : RS} (d : Rd b0 h r s) (k : Kept h h') : Rd b0 h' r s := d.keeps k fun _ _ x => x.elim
theorem Rd.lt {b0 : Nat} {h : Heap} {r : Addr} {s : RS} (d : Rd b0 h r s) : r.block < h.size := by
  obtain ⟨_, _, p, l, c, m, _⟩ := d
  exact m.1.lt (by simp)

theorem mem2 {h : Heap} {r : Addr} {u v : Value} (m : Mem h r [u, v]) : hcell h (r.add 0) = some u ∧ hcell h (r.add 1) = some v :=
  ⟨m.1.get (i := 0) rfl, m.1.get (i := 1) rfl⟩

theorem From.spec {K : KT} {p : OA} {l c : Nat} {bs : Oct} {h : Heap} (s : Sl 1 h p l (u8s bs)) (hlc : l ≤ c) (hb : bs.length < 1099511627776)
    (hK : ∀ h', Rd h.size h' (top h) (bs, false) → Kept h h' → K (.pointer (some (top h))) h') : CallsH P F.octs_From [.slice p l c] K h := by
  refine octs_From.ok ?_
  unfold octs_From.p0
  simp only [bd]
  refine hK _ ⟨hb, Nat.le_refl _, p, l, c, Mem.new h [.slice p l c, .bool false] T.octs_In, s.kept (Keeps.al _ h _ _), hlc, fun a e hn => ?_⟩ (Keeps.al _ h _ _)
  exact Lift.Sl.lt s (by intro e; exact hn (by simpa [u8s] using e)) a e

theorem take.spec {K : KT} {b0 : Nat} {r : Addr} {s : RS} {n : Nat} {h : Heap} (d : Rd b0 h r s)
    (hK : ∀ p l c h', Own 1 h' p l c (u8s (takeP n s).1) → Fr h.size p → Rd b0 h' r (takeP n s).2 → Keeps (At1 r) h h' → K (.slice p l c) h') : CallsH P F.octs_In_take [.pointer (some r), .int .u64 n] K h := by
  obtain ⟨hb, hrb, p, l, c, m, sl, hlc, hd⟩ := d
  obtain ⟨bs, bad⟩ := s
  simp only at hb m sl hd
  obtain ⟨c0, c1⟩ := mem2 m
  refine octs_In_take.ok ?_
  unfold octs_In_take.p0
  have el := Sl.len sl
  have miss : takeP n (bs, bad) = ([], [], true) → octs_In_take.j1 K (some r) n true h := by
    intro ht
    unfold octs_In_take.j1
    refine ifT rfl ⟨r, rfl, _, m.stc (i := 0) (by simp) rfl, r, rfl, ?_⟩
    have m1 := m.st1 (i := 0) (by simp) (.slice none 0 0)
    refine ⟨_, m1.stc (i := 1) (by simp) rfl, ?_⟩
    have m2 := m1.st1 (i := 1) (by simp) (.bool true)
    have k1 := hset_keeps h (r.add 0) (.slice none 0 0)
    have k2 := hset_keeps (Lift.hset h (r.add 0) (.slice none 0 0)) (r.add 1) (.bool true)
    rw [add_block] at k1 k2
    refine hK none 0 0 _ ?_ (Fr.none _) ?_ (k1.trans k2)
    · rw [ht]; exact Own.nil 1 _
    · rw [ht]
      exact ⟨by simp, hrb, none, 0, 0, m2, ⟨rfl, rfl⟩, Nat.le_refl _, fun a e => by cases e⟩
  refine ⟨r, rfl, bad, c1, fun hbad => ⟨r, rfl, p, l, c, c0, ?_⟩, fun hbad => miss (by simp [takeP, hbad])⟩
  subst hbad
  rw [wrap_len (by omega)]
  by_cases hn : bs.length < n
  · rw [decide_eq_true (by omega)]
    exact miss (by simp [takeP, hn])
  · rw [decide_eq_false (by omega)]
    have ht : takeP n (bs, false) = (bs.take n, bs.drop n, false) := by simp [takeP]; omega
    rw [ht] at hK
    unfold octs_In_take.j1
    refine ifF rfl ⟨r, rfl, p, l, c, c0, ⟨by omega, by omega⟩, ?_⟩
    rw [Int.toNat_natCast, slA_zero]
    have st := Sl.take sl (n := n) (by omega)
    rw [u8s_take] at st
    refine Clone.spec st (by simp; omega) fun q l2 c2 h2 o f k => ⟨_, _, _, rfl, r, rfl, p, l, c, ?_⟩
    have m' := m.kept k
    refine ⟨(mem2 m').1, ⟨by omega, by omega⟩, r, rfl, _, m'.stc (i := 0) (by simp) rfl, ?_⟩
    have k1 := hset_keeps h2 (r.add 0) (.slice (slA p n c 1) (l - n) (c - n))
    rw [add_block] at k1
    have hrl : r.block < h.size := m.1.lt (by simp)
    refine hK q l2 c2 _ (o.keeps k1 fun a e hs => by have := f a e; omega) f ⟨by simp; omega, hrb, slA p n c 1, l - n, c - n, m'.st1 (i := 0) (by simp) _, ?_, by omega, ?_⟩ (k.keeps.trans k1)
    · have sd := Sl.drop sl hlc (n := n) (by omega)
      rw [u8s_drop] at sd
      refine (sd.kept k).keeps' k1 fun a e hne hs => ?_
      obtain ⟨b, e1, e2⟩ := slA_block e
      have := hd b e1 (by intro e; subst e; simp [u8s] at hne)
      have := e2.trans hs
      omega
    · intro a e hne
      obtain ⟨b, e1, e2⟩ := slA_block e
      rw [← e2]
      exact hd b e1 (by intro e; subst e; simp at hne)

theorem numN_lt (bs : Oct) : numN bs < 18446744073709551616 := by
  unfold numN
  suffices h : ∀ v : Nat, v < 18446744073709551616 → bs.foldl (fun v c => (v * 256 + c.toNat) % 18446744073709551616) v < 18446744073709551616 from h 0 (by decide)
  induction bs with
  | nil => intro v hv; exact hv
  | cons c t ih => intro v hv; exact ih _ (Nat.mod_lt _ (by decide))

theorem number_loop {K : KT} {p : OA} {l c : Nat} {bs : Oct} {h : Heap} (s : Sl 1 h p l (u8s bs)) (hb : bs.length < 1099511627776) (hK : K (.int .u64 (numN bs)) h) :
    ∀ (fuel i : Nat), bs.length - i < fuel → i ≤ bs.length → octs_number.L1 K fuel (numN (bs.take i)) p l c ((l : Nat) : Int) i h
  | 0, _, hf, _ => absurd hf (Nat.not_lt_zero _)
  | fuel + 1, i, hf, hi => by
    have el := Sl.len s
    unfold octs_number.L1
    by_cases hlt : i < bs.length
    · refine ifT (by simp; omega) ?_
      refine ix_u8 s rfl (List.getElem?_eq_getElem hlt) ⟨by omega, ?_⟩
      simp only [bd]
      rw [or_step]
      have ew : IntKind.i64.wrap ((i : Int) + 1) = ((i + 1 : Nat) : Int) := by rw [wrapI (by omega) (by omega)]; omega
      rw [ew]
      have en : (numN (bs.take i) * 256 + bs[i].toNat) % 18446744073709551616 = numN (bs.take (i + 1)) := by
        rw [List.take_succ_eq_append_getElem hlt, numN, numN, List.foldl_append]
        rfl
      rw [en]
      exact number_loop s hb hK fuel (i + 1) (by omega) (by omega)
    · refine ifF (by simp; omega) ?_
      rw [List.take_of_length_le (by omega)]
      exact hK

theorem number.spec {K : KT} {p : OA} {l c : Nat} {bs : Oct} {h : Heap} (s : Sl 1 h p l (u8s bs)) (hb : bs.length < 1099511627776) (hK : K (.int .u64 (numN bs)) h) : CallsH P F.octs_number [.slice p l c] K h := by
  refine octs_number.ok ?_
  unfold octs_number.p0
  exact ⟨bs.length + 1, number_loop s hb hK _ 0 (by omega) (by omega)⟩

theorem takeP_len (n : Nat) (s : RS) (hb : s.1.length < 1099511627776) : (takeP n s).1.length < 1099511627776 := by
  unfold takeP
  split
  · simp
  · simp; omega

theorem RInt.spec {K : KT} {b0 : Nat} {r : Addr} {s : RS} {n : Nat} {h : Heap} (d : Rd b0 h r s) (h1 : 1 ≤ n) (h8 : n ≤ 8)
    (hK : ∀ h', Rd b0 h' r (takeP n s).2 → Keeps (At1 r) h h' → K (.int .u64 (numN (takeP n s).1)) h') : CallsH P F.octs_In_Int [.pointer (some r), .int .i64 n] K h := by
  refine octs_In_Int.ok ?_
  unfold octs_In_Int.p0
  refine width.spec (by omega) (by omega) ⟨_, rfl, ?_⟩
  rw [wrap_len (by omega)]
  refine take.spec d fun p l c h' o f d' k => ⟨_, _, _, rfl, ?_⟩
  exact number.spec o.sl (takeP_len n s d.1) ⟨_, rfl, hK h' d' k⟩

theorem Ok.spec {K : KT} {b0 : Nat} {r : Addr} {s : RS} {h : Heap} (d : Rd b0 h r s) (hK : K (.bool (!s.2)) h) : CallsH P F.octs_In_Ok [.pointer (some r)] K h := by
  obtain ⟨hb, hrb, p, l, c, m, sl, hlc, hd⟩ := d
  refine octs_In_Ok.ok ?_
  unfold octs_In_Ok.p0
  exact ⟨r, rfl, _, (mem2 m).2, hK⟩

theorem Left.spec {K : KT} {b0 : Nat} {r : Addr} {s : RS} {h : Heap} (d : Rd b0 h r s) (hK : K (.int .i64 (s.1.length : Nat)) h) : CallsH P F.octs_In_Left [.pointer (some r)] K h := by
  obtain ⟨hb, hrb, p, l, c, m, sl, hlc, hd⟩ := d
  refine octs_In_Left.ok ?_
  unfold octs_In_Left.p0
  have el := Sl.len sl
  refine ⟨r, rfl, p, l, c, (mem2 m).1, ?_⟩
  simp only [bd]
  rw [el]
  exact hK

/-- A length, and as many octets. -/
def measP (n : Nat) (s : RS) : Oct × RS :=
  if s.2 = true ∨ s.1.length < n then ([], [], true)
  else if numN (s.1.take n) > s.1.length - n then ([], [], true)
  else (((s.1.drop n).take (numN (s.1.take n))), (s.1.drop n).drop (numN (s.1.take n)), false)

theorem measured.spec {K : KT} {b0 : Nat} {r : Addr} {s : RS} {n : Nat} {h : Heap} (d : Rd b0 h r s) (hn : n ≤ 8)
    (hK : ∀ p l c h', Own 1 h' p l c (u8s (measP n s).1) → Fr h.size p → Rd b0 h' r (measP n s).2 → Keeps (At1 r) h h' → K (.slice p l c) h') : CallsH P F.octs_In_measured [.pointer (some r), .int .i64 n] K h := by
  have d0 := d
  obtain ⟨hb, hrb, p, l, c, m, sl, hlc, hd⟩ := d
  obtain ⟨bs, bad⟩ := s
  simp only at hb m sl hd
  obtain ⟨c0, c1⟩ := mem2 m
  have el := Sl.len sl
  refine octs_In_measured.ok ?_
  unfold octs_In_measured.p0
  have miss : (bad = true ∨ bs.length < n) → octs_In_measured.j1 K (some r) n true h := by
    intro ht
    unfold octs_In_measured.j1
    refine ifT rfl ?_
    rw [wrap_len (by omega)]
    have e : measP n (bs, bad) = takeP n (bs, bad) := by simp only [measP, takeP]; rw [if_pos ht, if_pos ht]
    rw [e] at hK
    exact take.spec d0 fun p l c h' o f d' k => ⟨_, _, _, rfl, hK p l c h' o f d' k⟩
  refine ⟨r, rfl, bad, c1, fun hbad => ⟨r, rfl, p, l, c, c0, ?_⟩, fun hbad => miss (.inl hbad)⟩
  subst hbad
  by_cases hlt : bs.length < n
  · rw [decide_eq_true (by omega)]
    exact miss (.inr hlt)
  · rw [decide_eq_false (by omega)]
    unfold octs_In_measured.j1
    refine ifF rfl ⟨r, rfl, p, l, c, c0, ⟨by omega, by omega⟩, ?_⟩
    rw [Int.toNat_natCast, slA_zero]
    have st := Sl.take sl (n := n) (by omega)
    rw [u8s_take] at st
    refine number.spec st (by simp; omega) ⟨_, rfl, r, rfl, p, l, c, c0, ?_⟩
    have ew : IntKind.u64.wrap (IntKind.i64.wrap ((l : Int) - (n : Int))) = ((l - n : Nat) : Int) := by
      rw [wrapI (by omega) (by omega), IntKind.wrap_u64]; omega
    rw [ew]
    by_cases hg : numN (bs.take n) > bs.length - n
    · refine ifT (by simp; omega) ⟨r, rfl, _, m.stc (i := 0) (by simp) rfl, r, rfl, ?_⟩
      have m1 := m.st1 (i := 0) (by simp) (.slice none 0 0)
      refine ⟨_, m1.stc (i := 1) (by simp) rfl, ?_⟩
      have m2 := m1.st1 (i := 1) (by simp) (.bool true)
      have k1 := hset_keeps h (r.add 0) (.slice none 0 0)
      have k2 := hset_keeps (Lift.hset h (r.add 0) (.slice none 0 0)) (r.add 1) (.bool true)
      rw [add_block] at k1 k2
      have ht : measP n (bs, false) = ([], [], true) := by simp only [measP]; rw [if_neg (by simp; omega), if_pos hg]
      rw [ht] at hK
      exact hK none 0 0 _ (Own.nil 1 _) (Fr.none _) ⟨by simp, hrb, none, 0, 0, m2, ⟨rfl, rfl⟩, Nat.le_refl _, fun a e => by cases e⟩ (k1.trans k2)
    · refine ifF (by simp; omega) ⟨r, rfl, p, l, c, c0, ⟨by omega, by omega⟩, r, rfl, _, m.stc (i := 0) (by simp) rfl, ?_⟩
      have k1 := hset_keeps h (r.add 0) (.slice (slA p n c 1) (l - n) (c - n))
      rw [add_block] at k1
      have hrl : r.block < h.size := m.1.lt (by simp)
      have d1 : Rd b0 (Lift.hset h (r.add 0) (.slice (slA p n c 1) (l - n) (c - n))) r (bs.drop n, false) := by
        refine ⟨by simp; omega, hrb, slA p n c 1, l - n, c - n, m.st1 (i := 0) (by simp) _, ?_, by omega, ?_⟩
        · have sd := Sl.drop sl hlc (n := n) (by omega)
          rw [u8s_drop] at sd
          refine sd.keeps' k1 fun a e hne hs => ?_
          obtain ⟨b, e1, e2⟩ := slA_block e
          have := hd b e1 (by intro e; subst e; simp [u8s] at hne)
          have := e2.trans hs
          omega
        · intro a e hne
          obtain ⟨b, e1, e2⟩ := slA_block e
          rw [← e2]
          exact hd b e1 (by intro e; subst e; simp at hne)
      have ht : measP n (bs, false) = takeP (numN (bs.take n)) (bs.drop n, false) := by
        simp only [measP, takeP]
        rw [if_neg (by simp; omega), if_neg hg, if_neg (by simp; omega)]
      rw [ht] at hK
      refine take.spec d1 fun q l2 c2 h2 o f d' k => ⟨_, _, _, rfl, hK q l2 c2 h2 o ?_ d' (k1.trans k)⟩
      rwa [hset_size] at f

theorem RShort.spec {K : KT} {b0 : Nat} {r : Addr} {s : RS} {h : Heap} (d : Rd b0 h r s)
    (hK : ∀ h', Rd b0 h' r (measP 1 s).2 → Keeps (At1 r) h h' → K (.string (mkS (measP 1 s).1)) h') : CallsH P F.octs_In_Short [.pointer (some r)] K h := by
  refine octs_In_Short.ok ?_
  unfold octs_In_Short.p0
  refine measured.spec (n := 1) d (by omega) fun p l c h' o f d' k => ⟨_, _, _, rfl, ?_⟩
  exact str_ok u_sl u_u8 u_str o.sl ⟨_, rfl, hK h' d' k⟩

theorem RLong.spec {K : KT} {b0 : Nat} {r : Addr} {s : RS} {h : Heap} (d : Rd b0 h r s)
    (hK : ∀ p l c h', Own 1 h' p l c (u8s (measP 4 s).1) → Fr h.size p → Rd b0 h' r (measP 4 s).2 → Keeps (At1 r) h h' → K (.slice p l c) h') : CallsH P F.octs_In_Long [.pointer (some r)] K h := by
  refine octs_In_Long.ok ?_
  unfold octs_In_Long.p0
  exact measured.spec (n := 4) d (by omega) fun p l c h' o f d' k => ⟨_, _, _, rfl, hK p l c h' o f d' k⟩

end Go.Proofs.Ytpfnfmlibpoleaa.Pr
