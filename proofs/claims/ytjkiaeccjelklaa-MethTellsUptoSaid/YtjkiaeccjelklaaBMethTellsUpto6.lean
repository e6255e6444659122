/- methTells_holds: all that the theorem needs, in a few texts (bundle.py; made of the texts that NOTES.md names). -/
import Derived.Below
import Derived.Laws.Append
import Derived.Laws.Bits64
import Derived.Laws.BitsAllLaws
import Derived.Laws.BitsLemmas
import Derived.Laws.IdiomStrings
import Derived.Laws.Sem
import Derived.Laws.Strings
import Derived.LoopN
import Derived.Orders
import Derived.Test.YtjkiaeccjelklaaBMethTellsUpto1
import Derived.Test.YtjkiaeccjelklaaBMethTellsUpto2
import Derived.Test.YtjkiaeccjelklaaBMethTellsUpto3
section
set_option linter.unusedSimpArgs false
namespace Go.Lift
theorem str_ok {P : Program} {src dst e : TypeId} (hs : P.underlying src = some (.slice e)) (he : P.underlying e = some (.int .u8)) (hd : P.underlying dst = some .string)
    {h : Heap} {p : Option Addr} {l c : Nat} {bs : List UInt8} (s : Sl 1 h p l (u8s bs)) {K : Value → Heap → Prop} (hK : K (.string (mkS bs)) h) : SemH P (Go.convert src dst (.slice p l c)) K h := by
  intro w hw
  have hl : bs.length = l := by have := s.1; simpa [u8s] using this
  cases p with
  | none =>
    have e0 := s.2
    simp only [u8s, List.map_eq_nil_iff] at e0
    subst e0
    refine ⟨.string (mkS []), w, ?_, by rw [hw]; exact hK, Rest.refl w⟩
    rw [run_convert_bytes_string w src dst e none l c hs he hd]
    simp [Conv.bytesToString]
    rfl
  | some a =>
    subst hl
    refine ⟨.string (mkS bs), w, run_convert_bytes_back w src dst e a c bs hs he hd fun j hj => ?_, by rw [hw]; exact hK, Rest.refl w⟩
    rw [cell_eq, hw]
    refine At.get s.2 ?_
    simp [u8s, hj]
theorem Mem.newF (h : Heap) (vs : List Value) (t : TypeId) (k : Nat) : Mem (h.push (.cells vs.toArray t (vs.length, k))) (top h) vs := by
  have e : (h.push (.cells vs.toArray t (vs.length, k)))[h.size]? = some (.cells vs.toArray t (vs.length, k)) := by simp
  refine ⟨⟨fun _ => rfl, fun i hi => ?_⟩, fun i hi => ?_⟩
  · rw [add_off rfl]
    simp [hcell, top, e]
  · rw [add_off rfl]
    simp only [hfrozen, top, e]
    simp
    omega
theorem bytes_ok {P : Program} {src dst e : TypeId} (hs : P.underlying src = some .string) (hd : P.underlying dst = some (.slice e)) (he : P.underlying e = some (.int .u8))
    {h : Heap} {bs : List UInt8} {K : Value → Heap → Prop} (hK : ∀ c h', Own 1 h' (some (top h)) bs.length c (u8s bs) → Kept h h' → h'.size = h.size + 1 → K (.slice (some (top h)) bs.length c) h') :
    SemH P (Go.convert src dst (.string (mkS bs))) K h := by
  intro w hw
  have hsz : (mkS bs).size = bs.length := by simp [mkS, ByteArray.size]
  refine ⟨_, _, run_bytes_of_string w src dst e (mkS bs) hs hd he, ?_, ⟨rfl, rfl, rfl⟩⟩
  subst hw
  have hg := grownCap_le w (mkS bs).size 0 e
  have hrow : bytesRow (mkS bs) (grownCap w (mkS bs).size 0 e) = (u8s bs ++ List.replicate (grownCap w (mkS bs).size 0 e - bs.length) (Value.int .u8 0)).toArray := by
    apply Array.ext'
    simp [bytesRow, mkS, u8s, ByteArray.size]
  rw [hrow, hsz] at *
  generalize grownCap w bs.length 0 e = cap at *
  have hn : (u8s bs ++ List.replicate (cap - bs.length) (Value.int .u8 0)).toArray.size = (u8s bs ++ List.replicate (cap - bs.length) (Value.int .u8 0)).length := rfl
  rw [hn]
  exact hK _ _ ⟨by rw [u8s_length, Nat.mul_one], hg, List.replicate (cap - bs.length) (.int .u8 0), by rw [List.length_replicate, Nat.mul_one], Mem.newF w.heap _ e _⟩ (Keeps.push _ _ _) (Array.size_push ..)
theorem ix_u8 {h : Heap} {p : Option Addr} {l : Nat} {bs : List UInt8} (m : Sl 1 h p l (u8s bs)) {i : Int} {n : Nat} (hi : i = n) {x : UInt8} (hx : bs[n]? = some x) {R : Int → Prop} (hR : R (x.toNat : Int)) :
    ∃ a, p = some a ∧ (0 : Int) ≤ i ∧ i < ((l : Nat) : Int) ∧ ∃ b, hcell h (Addr.add a (Int.toNat i * 1)) = some (.int .u8 b) ∧ R b := by
  have m' : Sl 1 h p l ((bs.map fun b => (b.toNat : Int)).map (Value.int .u8)) := by
    have e : (bs.map fun b => (b.toNat : Int)).map (Value.int .u8) = u8s bs := by simp [u8s]
    rw [e]; exact m
  exact ix m' hi (by rw [List.getElem?_map, hx]; rfl) hR
def numN (bs : List UInt8) : Nat := bs.foldl (fun v c => (v * 256 + c.toNat) % 18446744073709551616) 0
theorem or_u64 (a b : Nat) : bitsI .or .u64 (a : Int) (b : Int) = ((a % 18446744073709551616 ||| b % 18446744073709551616 : Nat) : Int) := by
  have e : bitsI .or .u64 (a : Int) (b : Int) = IntKind.u64.wrap (((BitVec.ofInt 64 (a : Int) ||| BitVec.ofInt 64 (b : Int) : BitVec 64).toNat : Nat) : Int) := rfl
  have o1 : BitVec.ofInt 64 (a : Int) = BitVec.ofNat 64 a := BitVec.ofInt_natCast ..
  have o2 : BitVec.ofInt 64 (b : Int) = BitVec.ofNat 64 b := BitVec.ofInt_natCast ..
  have hl := (BitVec.ofNat 64 a ||| BitVec.ofNat 64 b).isLt
  rw [e, o1, o2, IntKind.wrap_u64]
  rw [BitVec.toNat_or, BitVec.toNat_ofNat, BitVec.toNat_ofNat] at hl ⊢
  have h64 : (2 : Nat) ^ 64 = 18446744073709551616 := by decide
  rw [h64] at hl ⊢
  omega
theorem and_u64 (a b : Nat) : bitsI .and .u64 (a : Int) (b : Int) = ((a % 18446744073709551616 &&& b % 18446744073709551616 : Nat) : Int) := by
  have e : bitsI .and .u64 (a : Int) (b : Int) = IntKind.u64.wrap (((BitVec.ofInt 64 (a : Int) &&& BitVec.ofInt 64 (b : Int) : BitVec 64).toNat : Nat) : Int) := rfl
  have o1 : BitVec.ofInt 64 (a : Int) = BitVec.ofNat 64 a := BitVec.ofInt_natCast ..
  have o2 : BitVec.ofInt 64 (b : Int) = BitVec.ofNat 64 b := BitVec.ofInt_natCast ..
  have hl := (BitVec.ofNat 64 a &&& BitVec.ofNat 64 b).isLt
  rw [e, o1, o2, IntKind.wrap_u64]
  rw [BitVec.toNat_and, BitVec.toNat_ofNat, BitVec.toNat_ofNat] at hl ⊢
  have h64 : (2 : Nat) ^ 64 = 18446744073709551616 := by decide
  rw [h64] at hl ⊢
  omega
theorem or_step (v : Nat) (c : UInt8) : bitsI .or .u64 (shlI .u64 v 8) (IntKind.u64.wrap (c.toNat : Int)) = (((v * 256 + c.toNat) % 18446744073709551616 : Nat) : Int) := by
  have hc := c.toNat_lt
  have e1 : shlI .u64 v 8 = ((v * 256 % 18446744073709551616 : Nat) : Int) := by
    simp only [shlI, IntKind.bits]
    rw [IntKind.wrap_u64]
    have : (min (8 : Int).toNat 64) = 8 := rfl
    rw [this]
    omega
  have e2 : IntKind.u64.wrap (c.toNat : Int) = (c.toNat : Int) := by rw [IntKind.wrap_u64]; omega
  rw [e1, e2, or_u64, Nat.mod_mod, Nat.mod_eq_of_lt (show c.toNat < 18446744073709551616 by omega)]
  have hm : v * 256 % 18446744073709551616 = 2 ^ 8 * (v % 72057594037927936) := by omega
  have hor : (v * 256 % 18446744073709551616) ||| c.toNat = v * 256 % 18446744073709551616 + c.toNat := by
    rw [hm, ← Nat.two_pow_add_eq_or_of_lt (by simpa using hc)]
  rw [hor]
  omega
def octN (v k : Nat) : UInt8 := UInt8.ofNat (v / 256 ^ k)
theorem oct_wrap {v k : Nat} (hk : k < 8) : IntKind.u8.wrap (shrI .u64 (v : Int) ((8 * k : Nat) : Int)) = ((octN v k).toNat : Int) := by
  simp only [shrI, IntKind.bits]
  have hm : min ((8 * k : Nat) : Int).toNat 64 = 8 * k := by rw [Int.toNat_natCast]; omega
  rw [hm, IntKind.wrap_u8']
  have hp : (2 : Int) ^ (8 * k) = ((256 ^ k : Nat) : Int) := by
    have : (256 : Nat) ^ k = 2 ^ (8 * k) := by rw [Nat.pow_mul]
    rw [this, Int.natCast_pow]
    rfl
  rw [hp, Int.fdiv_eq_ediv_of_nonneg _ (Int.natCast_nonneg _), ← Int.natCast_ediv]
  simp [octN]
def octsN : Nat → Nat → List UInt8
  | 0, _ => []
  | n + 1, v => octN v n :: octsN n v
theorem octsN_length : ∀ n v, (octsN n v).length = n
  | 0, _ => rfl
  | n + 1, v => by simp [octsN, octsN_length n v]
theorem Kept.since {h0 h h' : Heap} (k : Kept h0 h) (k2 : Keeps (fun i => h0.size ≤ i) h h') : Kept h0 h' := k.trans' k2 fun _ hi hs => absurd hs (Nat.not_le.2 hi)
theorem slA_zero (p : Option Addr) (c : Nat) : slA p 0 c 1 = p := by
  unfold slA
  split
  · rfl
  · cases p <;> simp [add_zero]
theorem slA_block {p : Option Addr} {n c : Nat} {a : Addr} (e : slA p n c 1 = some a) : ∃ b, p = some b ∧ b.block = a.block := by
  unfold slA at e
  split at e
  · exact ⟨a, e, rfl⟩
  · cases p with
    | none => cases e
    | some b => simp at e; exact ⟨b, rfl, by rw [← e, add_block]⟩
theorem Sl.take {h : Heap} {p : Option Addr} {l : Nat} {vs : List Value} (m : Sl 1 h p l vs) {n : Nat} (hn : n ≤ l) : Sl 1 h p n (vs.take n) := by
  have hl := m.1
  refine ⟨by simp; omega, ?_⟩
  cases p with
  | none => have e := m.2; simp only at e ⊢; subst e; simp
  | some a => exact At.take m.2 n
theorem Sl.drop {h : Heap} {p : Option Addr} {l c : Nat} {vs : List Value} (m : Sl 1 h p l vs) (hc : l ≤ c) {n : Nat} (hn : n ≤ l) : Sl 1 h (slA p n c 1) (l - n) (vs.drop n) := by
  have hl := m.1
  refine ⟨by simp; omega, ?_⟩
  unfold slA
  by_cases e : c = n
  · rw [if_pos e]
    have : vs.drop n = [] := List.drop_eq_nil_of_le (by omega)
    rw [this]
    cases p with
    | none => rfl
    | some a => exact At.nil _ _
  · rw [if_neg e]
    cases p with
    | none => have e := m.2; simp only at e ⊢; subst e; simp
    | some a => rw [Nat.mul_one]; exact At.drop m.2 n
theorem append_fr {P : Program} {t tx ty e : TypeId} {d : TypeDesc} {sz by' : Nat} {z : List Value} (T : SlT P t e sz by' z) (hz : z.length = sz) (htx : P.underlying tx = some d) (hd : ∀ k, d ≠ .int k)
    {b : Nat} {h : Heap} {p : Option Addr} {l c n : Nat} {vs ws : List Value} {xv : Value} (o : Own sz h p l c vs) (f : Fr b p) (hbh : b ≤ h.size) (s : Src P sz h xv n ws)
    (hb : (l + n) * by' ≤ 140737488355328) (h63 : l + n ≤ 9223372036854775807) {K : Value → Heap → Prop}
    (hK : ∀ p' c' h', Own sz h' p' (l + n) c' (vs ++ ws) → Fr b p' → Keeps (fun i => b ≤ i) h h' → K (.slice p' (l + n) c') h') :
    SemH P (Builtin.append_ #[t, tx] ty #[.slice p l c, xv]) K h :=
  append_ok T hz htx hd o s hb h63 fun p' c' h' o' hp' k => hK p' c' h' o' (by rcases hp' with rfl | rfl; exact f; exact Fr.top hbh) (k.mono fun i _ ⟨a, e1, e2⟩ => e2 ▸ f a e1)
end Go.Lift
end
section
namespace Go.Lift
theorem and_i64 (a : Int) (m : Nat) (hm : m < 9223372036854775808) : bitsI .and .i64 a (m : Int) = (((a % 18446744073709551616).toNat &&& m : Nat) : Int) := by
  have e : bitsI .and .i64 a (m : Int) = IntKind.i64.wrap (((BitVec.ofInt 64 a &&& BitVec.ofInt 64 (m : Int) : BitVec 64).toNat : Nat) : Int) := rfl
  have o2 : BitVec.ofInt 64 (m : Int) = BitVec.ofNat 64 m := BitVec.ofInt_natCast ..
  have hl : ((a % 18446744073709551616).toNat &&& m) ≤ m := Nat.and_le_right
  have h64 : (2 : Nat) ^ 64 = 18446744073709551616 := by decide
  rw [e, o2, BitVec.toNat_and, BitVec.toNat_ofNat, BitVec.toNat_ofInt, h64, Nat.mod_eq_of_lt (by omega : m < 18446744073709551616)]
  exact wrapI (by omega) (by have : ((((18446744073709551616 : Nat) : Int))) = 18446744073709551616 := rfl; rw [this]; omega)
theorem mask_i64 (a : Int) (k : Nat) (hk : k < 63) : bitsI .and .i64 a ((2 ^ k - 1 : Nat) : Int) = a % ((2 ^ k : Nat) : Int) := by
  have hp : 2 ^ k ≤ 2 ^ 62 := Nat.pow_le_pow_right (by decide) (by omega)
  have hpos : 0 < 2 ^ k := Nat.pow_pos (by decide)
  rw [and_i64 a _ (by omega), Nat.and_two_pow_sub_one_eq_mod]
  have hd : ((2 ^ k : Nat) : Int) ∣ 18446744073709551616 := by
    have : (18446744073709551616 : Int) = ((2 ^ k : Nat) : Int) * ((2 ^ (64 - k) : Nat) : Int) := by
      rw [← Int.natCast_mul, ← Nat.pow_add, show k + (64 - k) = 64 by omega]; rfl
    exact ⟨_, this⟩
  have h0 : 0 ≤ a % 18446744073709551616 := Int.emod_nonneg _ (by decide)
  rw [Int.natCast_emod, Int.toNat_of_nonneg h0, Int.emod_emod_of_dvd a hd]
theorem shr_i64 (a : Int) (i : Nat) (hi : i < 64) : shrI .i64 a ((i : Nat) : Int) = a / ((2 ^ i : Nat) : Int) := by
  simp only [shrI, IntKind.bits, Int.toNat_natCast]
  rw [show min i 64 = i by omega, show (2 : Int) ^ i = ((2 ^ i : Nat) : Int) by rw [Int.natCast_pow]; rfl, Int.fdiv_eq_ediv_of_nonneg _ (Int.natCast_nonneg _)]
theorem m1 (a : Int) : bitsI .and .i64 a 1 = a % 2 := mask_i64 a 1 (by decide)
theorem m7 (a : Int) : bitsI .and .i64 a 7 = a % 8 := mask_i64 a 3 (by decide)
theorem m65535 (a : Int) : bitsI .and .i64 a 65535 = a % 65536 := mask_i64 a 16 (by decide)
theorem m2 (a : Int) : bitsI .and .i64 a 2 = a / 2 % 2 * 2 := by
  have := and_i64 a 2 (by decide)
  rw [show ((2 : Nat) : Int) = 2 from rfl] at this
  rw [this]
  have h : ∀ n : Nat, n &&& 2 = n / 2 % 2 * 2 := by
    intro n
    have h1 : (n &&& 2) = 2 * (n / 2 % 2) := by
      apply Nat.eq_of_testBit_eq
      intro i
      rw [Nat.testBit_and, show (2 : Nat) = 2 ^ 1 from rfl, Nat.testBit_two_pow, Nat.testBit_two_pow_mul]
      cases i with
      | zero => simp
      | succ i =>
        cases i with
        | zero => simp [Nat.testBit_succ, Nat.testBit_zero]
        | succ i => simp [Nat.testBit_succ]
    omega
  rw [h]
  have h0 : 0 ≤ a % 18446744073709551616 := Int.emod_nonneg _ (by decide)
  omega
end Go.Lift
end
