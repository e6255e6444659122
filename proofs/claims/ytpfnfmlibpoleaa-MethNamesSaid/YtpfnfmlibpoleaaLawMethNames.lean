/- MethNames over the heap: numbers, texts and flags stand in the order of the form, each in its own row. -/
import Derived.Test.YtpfnfmlibpoleaaRefSame
import Derived.Test.YtpfnfmlibpoleaaBitsP
import Derived.Test.YtpfnfmlibpoleaaPrLaw4Methnames
set_option linter.unusedVariables false
set_option linter.unusedSimpArgs false
namespace Go.Proofs.Ytpfnfmlibpoleaa.Pr
open Go Go.Lift Go.Proofs

theorem or4 (a b c d : UInt8) : bitsI .or .u64 (bitsI .or .u64 (bitsI .or .u64 (shlI .u64 (IntKind.u64.wrap (a.toNat : Int)) 24) (shlI .u64 (IntKind.u64.wrap (b.toNat : Int)) 16)) (shlI .u64 (IntKind.u64.wrap (c.toNat : Int)) 8)) (IntKind.u64.wrap (d.toNat : Int)) =
    ((a.toNat * 16777216 + b.toNat * 65536 + c.toNat * 256 + d.toNat : Nat) : Int) := by
  have ha := a.toNat_lt
  have hb := b.toNat_lt
  have hc := c.toNat_lt
  have hd := d.toNat_lt
  have w : ∀ n : Nat, n < 256 → IntKind.u64.wrap (n : Int) = (n : Int) := fun n h => wrap_len (by omega)
  have s24 : shlI .u64 (a.toNat : Int) 24 = ((a.toNat * 16777216 : Nat) : Int) := by
    simp only [shlI, IntKind.bits]; rw [show (min (24 : Int).toNat 64) = 24 from rfl, IntKind.wrap_u64]; omega
  have s16 : shlI .u64 (b.toNat : Int) 16 = ((b.toNat * 65536 : Nat) : Int) := by
    simp only [shlI, IntKind.bits]; rw [show (min (16 : Int).toNat 64) = 16 from rfl, IntKind.wrap_u64]; omega
  have s8 : shlI .u64 (c.toNat : Int) 8 = ((c.toNat * 256 : Nat) : Int) := by
    simp only [shlI, IntKind.bits]; rw [show (min (8 : Int).toNat 64) = 8 from rfl, IntKind.wrap_u64]; omega
  rw [w _ ha, w _ hb, w _ hc, w _ hd, s24, s16, s8, or_u64, or_u64, or_u64]
  have o1 : (a.toNat * 16777216 ||| b.toNat * 65536) = a.toNat * 16777216 + b.toNat * 65536 := by
    have := Nat.two_pow_add_eq_or_of_lt (i := 24) (b := b.toNat * 65536) (by omega) a.toNat
    rw [show (2 : Nat) ^ 24 = 16777216 from rfl] at this
    rw [Nat.mul_comm, ← this]
  rw [Nat.mod_eq_of_lt (show a.toNat * 16777216 < 18446744073709551616 by omega), Nat.mod_eq_of_lt (show b.toNat * 65536 < 18446744073709551616 by omega), o1]
  have o2 : (a.toNat * 16777216 + b.toNat * 65536 ||| c.toNat * 256) = a.toNat * 16777216 + b.toNat * 65536 + c.toNat * 256 := by
    have := Nat.two_pow_add_eq_or_of_lt (i := 16) (b := c.toNat * 256) (by omega) (a.toNat * 256 + b.toNat)
    rw [show (2 : Nat) ^ 16 = 65536 from rfl, show 65536 * (a.toNat * 256 + b.toNat) = a.toNat * 16777216 + b.toNat * 65536 by omega] at this
    rw [← this]
  rw [Nat.mod_eq_of_lt (show a.toNat * 16777216 + b.toNat * 65536 < 18446744073709551616 by omega), Nat.mod_eq_of_lt (show c.toNat * 256 < 18446744073709551616 by omega), o2]
  have o3 : (a.toNat * 16777216 + b.toNat * 65536 + c.toNat * 256 ||| d.toNat) = a.toNat * 16777216 + b.toNat * 65536 + c.toNat * 256 + d.toNat := by
    have := Nat.two_pow_add_eq_or_of_lt (i := 8) (b := d.toNat) (by omega) (a.toNat * 65536 + b.toNat * 256 + c.toNat)
    rw [show (2 : Nat) ^ 8 = 256 from rfl, show 256 * (a.toNat * 65536 + b.toNat * 256 + c.toNat) = a.toNat * 16777216 + b.toNat * 65536 + c.toNat * 256 by omega] at this
    rw [← this]
  rw [Nat.mod_eq_of_lt (show a.toNat * 16777216 + b.toNat * 65536 + c.toNat * 256 < 18446744073709551616 by omega), Nat.mod_eq_of_lt (show d.toNat < 18446744073709551616 by omega), o3]

theorem oct4 {n : Nat} (h : n < 4294967296) : (octN n 3).toNat * 16777216 + (octN n 2).toNat * 65536 + (octN n 1).toNat * 256 + (octN n 0).toNat = n := by
  simp only [octN, UInt8.toNat_ofNat', Nat.pow_zero, Nat.pow_succ, Nat.one_mul, Nat.reduceMul]
  omega

theorem names1 {s : Oct} (hs : s.length ≤ 255) {n k : Nat} (hn : n < 4294967296) (hk : k < 4294967296) : methW 50 11 ⟨[n, k], [s], [], []⟩ = some ([0, 50, 0, 11] ++ octsN 1 s.length ++ s ++ octsN 4 n ++ octsN 4 k) := by
  have hf : formP (50, 11) = some [115, 52, 52] := by decide +kernel
  have hh : octsN 2 (nat64 50) ++ octsN 2 (nat64 11) = [0, 50, 0, 11] := by decide +kernel
  have e1 : n / 256 ^ 4 = 0 := by simp only [Nat.pow_succ, Nat.pow_zero]; omega
  have e2 : k / 256 ^ 4 = 0 := by simp only [Nat.pow_succ, Nat.pow_zero]; omega
  have l : ¬ s.length > 255 := by omega
  unfold methW
  rw [hf]
  simp only [hh]
  simp [formW, flagsP, oneW, l, hn, hk]

theorem names2 {s : Oct} (hs : s.length ≤ 255) {n k : Nat} (hk : k < 4294967296) (b : Bool) : methW 60 71 ⟨[n, k], [[101], s], [b], []⟩ = some ([0, 60, 0, 71] ++ octsN 8 n ++ [UInt8.ofNat (if b then 1 else 0)] ++ [1, 101] ++ octsN 1 s.length ++ s ++ octsN 4 k) := by
  have hf : formP (60, 71) = some [56, 102, 115, 115, 52] := by decide +kernel
  have hh : octsN 2 (nat64 60) ++ octsN 2 (nat64 71) = [0, 60, 0, 71] := by decide +kernel
  have e2 : k / 256 ^ 4 = 0 := by simp only [Nat.pow_succ, Nat.pow_zero]; omega
  have l : ¬ s.length > 255 := by omega
  have o1 : octsN 1 1 = [1] := by decide +kernel
  have hb : ∀ o : Oct, packGo [b] 0 o = o ++ [UInt8.ofNat (if b then 1 else 0)] := by
    intro o
    cases b
    · simp [packGo]
    · simp [packGo, orLast, bitO]
  unfold methW
  rw [hf]
  simp only [hh]
  simp [formW, flagsP, oneW, packW, hb, l, hk, o1]

theorem Sl.at8 {h : Heap} {q : Addr} {l : Nat} {bs : Oct} (m : Sl 1 h (some q) l (u8s bs)) {i : Nat} {x : UInt8} (hx : bs[i]? = some x) : hcell h (q.add (i * 1)) = some (.int .u8 (x.toNat : Int)) := by
  rw [Nat.mul_one]
  exact At.get m.2 (by simp [u8s, hx])

section
variable {L R : List Asr} {h : Heap}

theorem MethNames.law (s : Oct) (hs : s.length ≤ maxLen) (a : Int) (ha : 0 ≤ a ∧ a < 18446744073709551616) (b : Int) (hb : 0 ≤ b ∧ b < 18446744073709551616) (c : Bool) (h : Heap) : CallsH P F.waybilllaw4_MethNames [.string (mkS s), .int .u64 a, .int .u64 b, .bool c] (fun v h' => v = .bool true ∧ Kept h h') h := by
  refine waybilllaw4_MethNames.ok ?_
  unfold waybilllaw4_MethNames.p0
  by_cases hl : s.length > 255
  · exact ifT (by simp; omega) (awakeS (St.old h) fun h1 S1 => ⟨_, rfl, rfl, S1.keptOld (List.mem_cons_self ..)⟩)
  refine ifF (by simp; omega) ?_
  have em : ∀ x : Int, 0 ≤ x ∧ x < 18446744073709551616 → bitsI .and .u64 x 4294967295 = (((x % 4294967296).toNat : Nat) : Int) := by
    intro x hx
    obtain ⟨n, rfl⟩ := Int.eq_ofNat_of_zero_le hx.1
    have := and_u64 n 4294967295
    rw [show ((4294967295 : Nat) : Int) = 4294967295 from rfl] at this
    rw [this, Nat.mod_eq_of_lt (show 4294967295 < 18446744073709551616 by decide), show 4294967295 = 2 ^ 32 - 1 from rfl, Nat.and_two_pow_sub_one_eq_mod]
    omega
  simp only [bd]
  rw [em a ha, em b hb]
  have hn : (a % 4294967296).toNat < 4294967296 := by omega
  have hk : (b % 4294967296).toNat < 4294967296 := by omega
  generalize (a % 4294967296).toNat = n at *
  generalize (b % 4294967296).toNat = k at *
  have S1 : St (Im 1 (some (top h), 1, 1) (strs [s]) :: _) (al h #[.string (mkS s)] T.string) := (St.old h).lit (strs [s]) T.string 1 rfl
  generalize al h #[.string (mkS s)] T.string = h1 at *
  have S2 : St (Im 1 (some (top h1), 2, 2) (nums [n, k]) :: _) (al h1 #[.int .u64 (n : Int), .int .u64 (k : Int)] T.uint64) := S1.lit (nums [n, k]) T.uint64 2 rfl
  generalize al h1 #[.int .u64 (n : Int), .int .u64 (k : Int)] T.uint64 = h2 at *
  have S3 : St (Im 1 (none, 0, 0) (u8s []) :: Im 1 (none, 0, 0) (bools []) :: Tb (fun _ => False) (none, 0, 0) [] :: _) h2 := ((tbNil 0 S2).imNil 1 0).imNil 1 0
  refine mappS (t := (none, 0, 0)) (bs := []) (a := 50) (b := 11) (y := ⟨(some (top h1), 2, 2), (some (top h), 1, 1), (none, 0, 0), (none, 0, 0)⟩) (x := ⟨[n, k], [s], [], []⟩) (B := fun _ => False) S3
    ⟨by simp, fun v hv => (by simp at hv; omega), by simp, fun v hv => (by simp at hv; subst hv; omega), by simp, fun f hf => (by cases hf), by simp⟩ (by simp) (by decide) (by decide) fun p l cc h3 S4 => ⟨_, _, _, _, rfl, ?_⟩
  rw [names1 (by omega) hn hk] at S4 ⊢
  simp only [Option.getD_some, Option.isSome_some] at S4 ⊢
  rw [List.nil_append] at S4
  have e32 : bitsI .or .u64 (shlI .u64 (n : Int) 32) (k : Int) = ((n * 4294967296 + k : Nat) : Int) := by
    have s32 : shlI .u64 (n : Int) 32 = ((n * 4294967296 : Nat) : Int) := by
      simp only [shlI, IntKind.bits]; rw [show (min (32 : Int).toNat 64) = 32 from rfl, IntKind.wrap_u64]; omega
    have := Nat.two_pow_add_eq_or_of_lt (i := 32) (b := k) (by omega) n
    rw [show (2 : Nat) ^ 32 = 4294967296 from rfl] at this
    rw [s32, or_u64, Nat.mod_eq_of_lt (by omega), Nat.mod_eq_of_lt (by omega), Nat.mul_comm, ← this]
  rw [e32]
  refine ⟨by omega, ?_⟩
  have S5 : St (Im 1 (some (top h3), 2, 2) (nums [n * 4294967296 + k, k]) :: _) (al h3 #[.int .u64 ((n * 4294967296 + k : Nat) : Int), .int .u64 (k : Int)] T.uint64) := S4.lit (nums [n * 4294967296 + k, k]) T.uint64 2 rfl
  generalize al h3 #[.int .u64 ((n * 4294967296 + k : Nat) : Int), .int .u64 (k : Int)] T.uint64 = h4 at *
  have S6 : St (Im 1 (some (top h4), 1, 1) (bools [c]) :: _) (al h4 #[.bool c] T.bool) := S5.lit (bools [c]) T.bool 1 rfl
  generalize al h4 #[.bool c] T.bool = h5 at *
  have S7 : St (Im 1 (some (top h5), 2, 2) (strs [[101], s]) :: _) (al h5 #[.string (mkS [101]), .string (mkS s)] T.string) := S6.lit (strs [[101], s]) T.string 2 rfl
  generalize al h5 #[.string (mkS [101]), .string (mkS s)] T.string = h6 at *
  refine mappS (t := (none, 0, 0)) (bs := []) (a := 60) (b := 71) (y := ⟨(some (top h3), 2, 2), (some (top h5), 2, 2), (some (top h4), 1, 1), (none, 0, 0)⟩) (x := ⟨[n * 4294967296 + k, k], [[101], s], [c], []⟩) (B := fun _ => False) S7
    ⟨by simp, fun v hv => (by simp at hv; omega), by simp, fun v hv => (by simp at hv; rcases hv with rfl | rfl <;> first | omega | decide), by simp, fun f hf => (by cases hf), by simp⟩ (by simp) (by decide) (by decide) fun p2 l2 c2 h7 S8 => ⟨_, _, _, _, rfl, ?_⟩
  rw [names2 (by omega) hk c] at S8 ⊢
  simp only [Option.getD_some, Option.isSome_some] at S8 ⊢
  rw [List.nil_append] at S8
  have S9 := (S8.fz 1 (p2, l2, c2)).fz 1 (p, l, cc)
  have S10 : St (Im 1 (p, l, cc) (u8s ([0, 50, 0, 11] ++ octsN 1 s.length ++ s ++ octsN 4 n ++ octsN 4 k)) :: Im 1 (p2, l2, c2) (u8s ([0, 60, 0, 71] ++ octsN 8 (n * 4294967296 + k) ++ [UInt8.ofNat (if c then 1 else 0)] ++ [1, 101] ++ octsN 1 s.length ++ s ++ octsN 4 k)) :: [Old h]) h7 := S9.to
  clear S9 S8 S7 S6 S5 S4 S3 S2 S1
  obtain ⟨sb, cb⟩ := S10.iml (List.mem_cons_self ..)
  obtain ⟨sc, ccc⟩ := S10.tl.iml (List.mem_cons_self ..)
  simp only at sb sc cb ccc
  have lb := Sl.len sb
  have lc := Sl.len sc
  simp only [List.length_append, octsN_length, List.length_cons, List.length_nil] at lb lc
  refine ifF' rfl (ifF' rfl (ifF' ?_ ?_))
  · rw [wrapI (by omega) (by omega), bne_eq_false_iff_eq]; omega
  rw [wrapI (by omega) (by omega)]
  rw [show (((l2 : Nat) : Int) != (20 : Int) + ((s.length : Nat) : Int)) = false by rw [bne_eq_false_iff_eq]; omega]
  unfold waybilllaw4_MethNames.j1
  refine ifF rfl ?_
  simp only [bd]
  have e5 : IntKind.i64.wrap ((5 : Int) + ((s.length : Nat) : Int)) = ((5 + s.length : Nat) : Int) := by rw [wrapI (by omega) (by omega)]; omega
  rw [e5]
  have x1 : IntKind.i64.wrap (((5 + s.length : Nat) : Int) + 1) = ((5 + s.length + 1 : Nat) : Int) := by rw [wrapI (by omega) (by omega)]; omega
  have x2 : IntKind.i64.wrap (((5 + s.length : Nat) : Int) + 2) = ((5 + s.length + 2 : Nat) : Int) := by rw [wrapI (by omega) (by omega)]; omega
  have x3 : IntKind.i64.wrap (((5 + s.length : Nat) : Int) + 3) = ((5 + s.length + 3 : Nat) : Int) := by rw [wrapI (by omega) (by omega)]; omega
  simp only [x1, x2, x3, Int.toNat_natCast]
  cases p with
  | none => exact absurd (congrArg List.length sb.2) (by simp [u8s])
  | some q =>
  cases p2 with
  | none => exact absurd (congrArg List.length sc.2) (by simp [u8s])
  | some q2 =>
  have g : ∀ i, i < 4 → ([0, 50, 0, 11] ++ octsN 1 s.length ++ s ++ octsN 4 n ++ octsN 4 k)[5 + s.length + i]? = some (octN n (3 - i)) := by
    intro i hi
    rw [List.getElem?_append_left (by simp [octsN_length]; omega), List.getElem?_append_right (by simp [octsN_length]; omega)]
    simp only [List.length_append, octsN_length, List.length_cons, List.length_nil]
    rw [show 5 + s.length + i - (0 + 1 + 1 + 1 + 1 + 1 + s.length) = i by omega]
    rcases i with _ | _ | _ | _ | i
    · rfl
    · rfl
    · rfl
    · rfl
    · omega
  have f0 := Sl.at8 sb (g 0 (by omega))
  have f1 := Sl.at8 sb (g 1 (by omega))
  have f2 := Sl.at8 sb (g 2 (by omega))
  have f3 := Sl.at8 sb (g 3 (by omega))
  simp only [Nat.add_zero, Nat.sub_zero, Nat.reduceSub] at f0 f1 f2 f3
  simp only [someE, rdN f0, rdN f1, rdN f2, rdN f3, or4, oct4 hn, and_self]
  refine ⟨by omega, by omega, by omega, by omega, by omega, by omega, by omega, by omega, ?_⟩
  simp only [show (0 : Int) ≤ 8 from by decide, show (0 : Int) ≤ 16 from by decide, show (0 : Int) ≤ 24 from by decide, true_and, and_self]
  unfold waybilllaw4_MethNames.j2
  refine ⟨⟨by omega, by omega⟩, ⟨by omega, by omega⟩, ?_⟩
  have T1 := S10.itake (some q, l, cc) (n := 5 + s.length) (by show 5 + s.length ≤ l; omega)
  have T2 := T1.idrop (some q, 5 + s.length, cc) (n := 5) (by show 5 ≤ 5 + s.length; omega)
  have es : ((u8s ([0, 50, 0, 11] ++ octsN 1 s.length ++ s ++ octsN 4 n ++ octsN 4 k)).take (5 + s.length)).drop 5 = u8s s := by
    rw [u8s_take, u8s_drop]
    congr 1
    have : [0, 50, 0, 11] ++ octsN 1 s.length ++ s ++ octsN 4 n ++ octsN 4 k = ([0, 50, 0, 11] ++ octsN 1 s.length) ++ s ++ (octsN 4 n ++ octsN 4 k) := by simp
    have hl5 : ([0, 50, 0, 11] ++ octsN 1 s.length : Oct).length = 5 := by simp [octsN_length]
    rw [this, List.take_append_of_le_length (by simp [octsN_length]; omega), List.take_of_length_le (by simp [octsN_length]; omega), ← hl5, List.drop_left]
  rw [es] at T2
  refine str_ok u_sl u_u8 u_str (c := cc - 5) (T2.iml (List.mem_cons_self ..)).1 ⟨_, rfl, ifT (by simp) (ifT (by simp) ?_)⟩
  have hci : ∀ i, i < 3 → ([0, 60, 0, 71] ++ octsN 8 (n * 4294967296 + k) ++ [UInt8.ofNat (if c then 1 else 0)] ++ [1, 101] ++ octsN 1 s.length ++ s ++ octsN 4 k)[12 + i]? = [UInt8.ofNat (if c then 1 else 0), 1, 101][i]? := by
    intro i hi
    have : [0, 60, 0, 71] ++ octsN 8 (n * 4294967296 + k) ++ [UInt8.ofNat (if c then 1 else 0)] ++ [1, 101] ++ octsN 1 s.length ++ s ++ octsN 4 k = ([0, 60, 0, 71] ++ octsN 8 (n * 4294967296 + k)) ++ ([UInt8.ofNat (if c then 1 else 0), 1, 101] ++ (octsN 1 s.length ++ s ++ octsN 4 k)) := by simp
    rw [this, List.getElem?_append_right (by simp [octsN_length]), List.getElem?_append_left (by simp [octsN_length]; omega)]
    congr 1
    simp [octsN_length]
  refine ixV (i := 12) (n := 12) sc (w := .int .u8 ((UInt8.ofNat (if c then 1 else 0)).toNat : Int)) rfl (by have e := hci 0 (by omega); unfold u8s; rw [List.getElem?_map]; exact congrArg (Option.map _) e) fun r1 er1 cr1 => ?_
  simp only [rdN cr1]
  refine ifT (by cases c <;> rfl) ?_
  refine ixV (i := 13) (n := 13) sc (w := .int .u8 ((1 : UInt8).toNat : Int)) rfl (by have e := hci 1 (by omega); unfold u8s; rw [List.getElem?_map]; exact congrArg (Option.map _) e) fun r2 er2 cr2 => ?_
  simp only [rdN cr2]
  refine ifT rfl ?_
  refine ixV (i := 14) (n := 14) sc (w := .int .u8 ((101 : UInt8).toNat : Int)) rfl (by have e := hci 2 (by omega); unfold u8s; rw [List.getElem?_map]; exact congrArg (Option.map _) e) fun r3 er3 cr3 => ?_
  simp only [rdN cr3]
  refine ifT rfl ?_
  have e16 : IntKind.i64.wrap ((16 : Int) + ((s.length : Nat) : Int)) = ((16 + s.length : Nat) : Int) := by rw [wrapI (by omega) (by omega)]; omega
  rw [e16, Int.toNat_natCast]
  refine ⟨⟨by omega, by omega⟩, ⟨by omega, by omega⟩, ?_⟩
  have T3 := S10.itake (some q2, l2, c2) (n := 16 + s.length) (by show 16 + s.length ≤ l2; omega)
  have T4 := T3.idrop (some q2, 16 + s.length, c2) (n := 16) (by show 16 ≤ 16 + s.length; omega)
  have es2 : ((u8s ([0, 60, 0, 71] ++ octsN 8 (n * 4294967296 + k) ++ [UInt8.ofNat (if c then 1 else 0)] ++ [1, 101] ++ octsN 1 s.length ++ s ++ octsN 4 k)).take (16 + s.length)).drop 16 = u8s s := by
    rw [u8s_take, u8s_drop]
    congr 1
    have hl16 : ([0, 60, 0, 71] ++ octsN 8 (n * 4294967296 + k) ++ [UInt8.ofNat (if c then 1 else 0)] ++ [1, 101] ++ octsN 1 s.length : Oct).length = 16 := by simp [octsN_length]
    rw [List.take_append_of_le_length (by simp [octsN_length]; omega), List.take_of_length_le (by simp [octsN_length]; omega), ← hl16, List.drop_left]
  rw [es2] at T4
  refine str_ok u_sl u_u8 u_str (c := c2 - 16) (T4.iml (List.mem_cons_self ..)).1 ⟨_, rfl, ifT (by simp) (awakeS S10 fun h8 S11 => ⟨_, rfl, rfl, ?_⟩)⟩
  have S12 : St [Old h] h8 := S11.to
  exact S12.keptOld (List.mem_cons_self ..)
end
end Go.Proofs.Ytpfnfmlibpoleaa.Pr
