/- Reading a method: flags, one letter, the whole. -/
import Derived.Test.YtpfnfmlibpoleaaTablR
set_option linter.unusedVariables false
set_option linter.unusedSimpArgs false
namespace Go.Proofs.Ytpfnfmlibpoleaa.Pr
open Go Go.Lift Go.Proofs

theorem sl_bool : SlT P T.sl_bool T.bool 1 1 [.bool false] := slT (by kernel_rfl) (by kernel_rfl)
theorem u_slb : P.underlying T.sl_bool = some (.slice T.bool) := by kernel_rfl
theorem sl_string : SlT P T.sl_string T.string 1 16 [.string (mkS [])] := slT (by kernel_rfl) (by kernel_rfl)
theorem u_sls : P.underlying T.sl_string = some (.slice T.string) := by kernel_rfl
theorem sl_uint64 : SlT P T.sl_uint64 T.uint64 1 8 [.int .u64 0] := slT (by kernel_rfl) (by kernel_rfl)
theorem u_sl64 : P.underlying T.sl_uint64 = some (.slice T.uint64) := by kernel_rfl

def bools (l : List Bool) : List Value := l.map .bool
theorem bools_one (l : List Bool) : ∀ w ∈ bools l, one w = true := by
  intro w hw
  obtain ⟨b, _, rfl⟩ := List.mem_map.1 hw
  rfl

def bitOf (c i : Nat) : Bool := c / 2 ^ i % 2 == 1

theorem bit_eq {c i : Nat} (hc : c < 18446744073709551616) (hi : i < 64) : (bitsI .and .u64 (shrI .u64 (c : Int) (i : Int)) 1 == 1) = bitOf c i := by
  have e1 : shrI .u64 (c : Int) (i : Int) = ((c / 2 ^ i : Nat) : Int) := by
    simp only [shrI, IntKind.bits, Int.toNat_natCast]
    rw [show min i 64 = i by omega, show (2 : Int) ^ i = ((2 ^ i : Nat) : Int) by rw [Int.natCast_pow]; rfl, Int.fdiv_eq_ediv_of_nonneg _ (Int.natCast_nonneg _), ← Int.natCast_ediv]
  have hd : c / 2 ^ i < 18446744073709551616 := Nat.lt_of_le_of_lt (Nat.div_le_self ..) hc
  have := and_u64 (c / 2 ^ i) 1
  rw [e1]
  rw [show ((1 : Nat) : Int) = 1 from rfl] at this
  rw [this, Nat.mod_eq_of_lt hd, Nat.mod_eq_of_lt (show 1 < 18446744073709551616 by decide), Nat.and_one_is_mod, Bool.eq_iff_iff]
  unfold bitOf
  rw [beq_iff_eq, beq_iff_eq]
  omega

/-- Flags, from the place i on, out of the octet c. -/
def unpackP : Nat → Nat → Nat → RS → List Bool × RS
  | 0, _, _, s => ([], s)
  | k + 1, i, c, s =>
    if i % 8 = 0 then let r := unpackP k (i + 1) (numN (takeP 1 s).1) (takeP 1 s).2; (bitOf (numN (takeP 1 s).1) (i % 8) :: r.1, r.2)
    else let r := unpackP k (i + 1) c s; (bitOf c (i % 8) :: r.1, r.2)

theorem unpackP_len : ∀ (k i c : Nat) (s : RS), (unpackP k i c s).1.length = k
  | 0, _, _, _ => rfl
  | k + 1, i, c, s => by
    unfold unpackP
    split <;> simp [unpackP_len k]

theorem tmod8 (i : Nat) : Int.tmod (i : Int) 8 = ((i % 8 : Nat) : Int) := by rw [Int.tmod_eq_emod_of_nonneg (by omega)]; rfl

section
variable {K : KT} {L R : List Asr} {h : Heap}

theorem unpack_loop {r : Addr} {n : Nat} {full : List Bool} {send : RS} (hn : n < 1000000)
    (hK : ∀ p l c h', St (Ow 1 (p, l, c) (bools full) :: RdA r send :: L) h' → K (.slice p l c) h') :
    ∀ (fuel i c : Nat) (t : SV) (out : List Bool) (s : RS) (h : Heap), n - i < fuel → i ≤ n → c < 18446744073709551616 → out.length = i → (out ++ (unpackP (n - i) i c s).1, (unpackP (n - i) i c s).2) = (full, send) →
      St (Ow 1 t (bools out) :: RdA r s :: L) h → meth_unpack.L1 K fuel (some r) t.1 t.2.1 t.2.2 c n i h
  | 0, _, _, _, _, _, _, hf, _, _, _, _, _ => absurd hf (Nat.not_lt_zero _)
  | fuel + 1, i, c, t, out, s, h, hf, hi, hc, hol, he, S => by
    unfold meth_unpack.L1
    by_cases hlt : i < n
    · refine ifT (by simp; omega) ⟨by decide, ?_⟩
      rw [tmod8]
      have hni : n - i = (n - (i + 1)) + 1 := by omega
      have fin : ∀ (c' : Nat) (s' : RS) (h' : Heap), c' < 18446744073709551616 → St (Ow 1 t (bools out) :: RdA r s' :: L) h' →
          (out ++ (bitOf c' (i % 8) :: (unpackP (n - (i + 1)) (i + 1) c' s').1), (unpackP (n - (i + 1)) (i + 1) c' s').2) = (full, send) → meth_unpack.j2 K (meth_unpack.L1 K fuel) (some r) t.1 t.2.1 t.2.2 c' i n i h' := by
        intro c' s' h' hc' S' he'
        unfold meth_unpack.j2
        rw [tmod8]
        have e8 : IntKind.u64.wrap ((i % 8 : Nat) : Int) = ((i % 8 : Nat) : Int) := wrap_len (by omega)
        rw [e8]
        refine ⟨by decide, by omega, ?_⟩
        rw [bit_eq hc' (by omega)]
        simp only [bd]
        have hol' := S'.ow.1
        simp only [bools, List.length_map, Nat.mul_one] at hol'
        have S2 := S'.al (bools [bitOf c' (i % 8)]) T.bool
        refine St.app sl_bool rfl u_slb (fun k e => by cases e) S2.p1 (Src.slice (n := 1) ⟨rfl, S2.mem.1⟩ (bools_one _)) (by omega) (by omega) fun p2 c2 h2 S3 => ⟨_, _, _, rfl, ?_⟩
        rw [wsucc (by omega)]
        have eb : bools out ++ bools [bitOf c' (i % 8)] = bools (out ++ [bitOf c' (i % 8)]) := by simp [bools]
        rw [eb] at S3
        refine unpack_loop hn hK fuel (i + 1) c' (p2, t.2.1 + 1, c2) (out ++ [bitOf c' (i % 8)]) s' h2 (by omega) (by omega) hc' (by simp [hol]) ?_ S3.to
        rw [← he', List.append_assoc]; rfl
      rw [hni, unpackP] at he
      by_cases h8 : i % 8 = 0
      · refine ifT (by simp; omega) ?_
        refine rintS (n := 1) S (by omega) (by omega) fun h' S' => ⟨_, rfl, ?_⟩
        rw [if_pos h8] at he
        exact fin _ _ h' (numN_lt _) S'.to he
      · refine ifF (by simp; omega) ?_
        rw [if_neg h8] at he
        exact fin c s h hc S he
    · refine ifF (by simp; omega) ?_
      rw [show n - i = 0 by omega, unpackP, List.append_nil] at he
      cases he
      exact hK _ _ _ h S

theorem unpackS {r : Addr} {n : Nat} {s : RS} (S : St L h) [Has (RdA r) L s R] (hn : n < 1000000)
    (hK : ∀ p l c h', St (Ow 1 (p, l, c) (bools (unpackP n 0 0 s).1) :: RdA r (unpackP n 0 0 s).2 :: R) h' → K (.slice p l c) h') : CallsH P F.meth_unpack [.pointer (some r), .int .i64 n] K h := by
  refine meth_unpack.ok ?_
  unfold meth_unpack.p0
  exact ⟨n + 1, unpack_loop hn hK _ 0 0 (none, 0, 0) [] s h (by omega) (by omega) (by decide) rfl rfl ((S.get (RdA r)).owNil 1)⟩

/-! ### A method in its box -/

structure PM where
  N : List Nat
  S : List Oct
  F : List Bool
  T : List PF

def nums (l : List Nat) : List Value := l.map fun n : Nat => .int .u64 (n : Int)
def strs (l : List Oct) : List Value := l.map fun s => .string (mkS s)

structure MV where
  n : SV
  s : SV
  f : SV
  t : SV
abbrev mcells (a b : Int) (y : MV) : List Value := [.int .i64 a, .int .i64 b, y.n.v, y.s.v, y.f.v, y.t.v]

/-- A method's box whose rows grow. -/
def MB (m : Addr) (a b : Int) (x : PM) : Asr := ex fun y : MV => ex fun B : Nat → Prop => stars [Bx m (mcells a b y), Ow 1 y.n (nums x.N), Ow 1 y.s (strs x.S), Ow 1 y.f (bools x.F), Tb B y.t x.T]

theorem MB.op {m : Addr} {a b : Int} {x : PM} (S : St (MB m a b x :: L) h) : ∃ y B, St (Bx m (mcells a b y) :: Ow 1 y.n (nums x.N) :: Ow 1 y.s (strs x.S) :: Ow 1 y.f (bools x.F) :: Tb B y.t x.T :: L) h := by
  obtain ⟨y, S⟩ := S.ex
  obtain ⟨B, S⟩ := S.ex
  exact ⟨y, B, St.open S⟩
theorem MB.cl {m : Addr} {a b : Int} {x : PM} (y : MV) (B : Nat → Prop) (S : St (Bx m (mcells a b y) :: Ow 1 y.n (nums x.N) :: Ow 1 y.s (strs x.S) :: Ow 1 y.f (bools x.F) :: Tb B y.t x.T :: L) h) : St (MB m a b x :: L) h :=
  St.ex' y (St.ex' B (St.close S))

/-- What one letter says. -/
def oneP (c : UInt8) (s : RS) (x : PM) : PM × Bool × RS :=
  if c = 115 then ({ x with S := x.S ++ [(measP 1 s).1] }, true, (measP 1 s).2)
  else if c = 108 then ({ x with S := x.S ++ [(measP 4 s).1] }, true, (measP 4 s).2)
  else if c = 116 then ({ x with T := (tparseP (measP 4 s).1).getD [] }, (tparseP (measP 4 s).1).isSome, (measP 4 s).2)
  else ({ x with N := x.N ++ [numN (takeP (c.toNat - 48) s).1] }, true, (takeP (c.toNat - 48) s).2)

def letter (c : UInt8) : Prop := c = 115 ∨ c = 108 ∨ c = 116 ∨ (49 ≤ c.toNat ∧ c.toNat ≤ 56)

theorem eb8 (k n : UInt8) : (((k.toNat : Nat) : Int) == (n.toNat : Int)) = decide (k = n) := by
  rw [Bool.eq_iff_iff, beq_iff_eq, decide_eq_true_eq]
  exact ⟨fun e => UInt8.toNat_inj.1 (by omega), fun e => by rw [e]⟩

theorem oneS {r m : Addr} {s : RS} {a b : Int} {x : PM} {c : UInt8} {R1 R2 : List Asr} (S0 : St L h) [H1 : Has (RdA r) L s R1] [H2 : Has (MB m a b) R1 x R2] (hc : letter c) (hN : x.N.length < 1000000) (hS : x.S.length < 1000000)
    (hK : ∀ h', St (RdA r (oneP c s x).2.2 :: MB m a b (oneP c s x).1 :: R2) h' → K (.bool (oneP c s x).2.1) h') : CallsH P F.meth_one [.pointer (some r), .pointer (some m), .int .u8 (c.toNat : Int)] K h := by
  have S1 : St (MB m a b x :: RdA r s :: R2) h := St.perm (S0.perm H1.perm) ((H2.perm.cons _).trans (List.Perm.swap ..))
  obtain ⟨y, B, S⟩ := MB.op S1
  have hb := RdA.len ((S.get (RdA r)))
  have e115 := eb8 c 115
  have e108 := eb8 c 108
  have e116 := eb8 c 116
  simp only [show ((116 : UInt8).toNat : Int) = 116 from rfl, show ((115 : UInt8).toNat : Int) = 115 from rfl, show ((108 : UInt8).toNat : Int) = 108 from rfl] at e115 e108 e116
  refine meth_one.ok ?_
  unfold meth_one.p0
  simp only [bd, someE, rdS (S.rc m 3 rfl), rdS (S.rc m 2 rfl)]
  rw [e115, e108, e116]
  have lS : y.s.2.1 = x.S.length := by have := (S.ows 1 y.s).1; simp only [strs, List.length_map, Nat.mul_one] at this; omega
  have lN : y.n.2.1 = x.N.length := by have := (S.ows 1 y.n).1; simp only [nums, List.length_map, Nat.mul_one] at this; omega
  unfold oneP at hK
  have m4 := measP_le 4 s
  by_cases k1 : c = 115
  · simp only [if_pos k1] at hK
    refine ifT (by simp [k1]) ?_
    refine ⟨rshortS S fun h1 S1 => ⟨_, rfl, ?_⟩, rshortS S fun h1 S1 => ⟨_, rfl, ?_⟩⟩
    all_goals
      try simp only [rdS (S1.rc m 3 rfl), rdS ((S1.al [.string (mkS (measP 1 s).1)] T.string).rc m 3 rfl), and_self]
      refine St.push1 sl_string S1 m 3 y.s rfl (by simp) (by omega) (by omega) fun p c h2 S2 => hK h2 (St.p1 (MB.cl ⟨y.n, (p, y.s.2.1 + 1, c), y.f, y.t⟩ B ?_))
      have e : strs x.S ++ [.string (mkS (measP 1 s).1)] = strs (x.S ++ [(measP 1 s).1]) := by simp [strs]
      simp only [e, List.set_cons_succ, List.set_cons_zero] at S2
      exact S2.to
  simp only [if_neg k1] at hK
  refine ifF (by simp [k1]) ?_
  by_cases k2 : c = 108
  · simp only [if_pos k2] at hK
    refine ifT (by simp [k2]) ?_
    refine ⟨rlongS S fun p l c h1 S1 => ⟨_, _, _, rfl, ?_⟩, rlongS S fun p l c h1 S1 => ⟨_, _, _, rfl, ?_⟩⟩
    all_goals
      try simp only [rdS (S1.rc m 3 rfl)]
      repeat' (with_reducible refine And.intro ?_ ?_)
      all_goals
        refine str_ok u_sl u_u8 u_str (S1.osl 1 (p, l, c)) ⟨_, rfl, ?_⟩
        try simp only [rdS (S1.rc m 3 rfl), rdS ((S1.al [.string (mkS (measP 4 s).1)] T.string).rc m 3 rfl), and_self]
        refine St.push1 sl_string S1 m 3 y.s rfl (by simp) (by omega) (by omega) fun p c h2 S2 => hK h2 (St.p1 (MB.cl ⟨y.n, (p, y.s.2.1 + 1, c), y.f, y.t⟩ B ?_))
        have e : strs x.S ++ [.string (mkS (measP 4 s).1)] = strs (x.S ++ [(measP 4 s).1]) := by simp [strs]
        simp only [e, List.set_cons_succ, List.set_cons_zero] at S2
        exact S2.to
  simp only [if_neg k2] at hK
  refine ifF (by simp [k2]) ?_
  by_cases k3 : c = 116
  · simp only [if_pos k3] at hK
    refine ifT (by simp [k3]) (rlongS S fun p l c h1 S1 => ⟨_, _, _, rfl, ?_⟩)
    refine tparseS (s := (p, l, c)) (bs := (measP 4 s).1) (S1.fz 1 (p, l, c)) (by omega) fun p2 l2 c2 h2 B2 S2 => ⟨_, _, _, _, rfl, S2.put1 m 5 (by simp) rfl fun h3 S3 => hK h3 (St.p1 (MB.cl ⟨y.n, y.s, y.f, (p2, l2, c2)⟩ B2 ?_))⟩
    simp only [List.set_cons_succ, List.set_cons_zero] at S3
    exact S3.to
  simp only [if_neg k3] at hK
  have hd : 49 ≤ c.toNat ∧ c.toNat ≤ 56 := by
    rcases hc with e | e | e | e
    · exact absurd e k1
    · exact absurd e k2
    · exact absurd e k3
    · exact e
  have ew : IntKind.i64.wrap (IntKind.u8.wrap ((c.toNat : Int) - 48)) = ((c.toNat - 48 : Nat) : Int) := by
    rw [IntKind.wrap_u8', wrapI (by omega) (by omega)]; omega
  rw [ew]
  refine ifF (by simp [k3]) ?_
  refine ⟨rintS S (by omega) (by omega) fun h1 S1 => ⟨_, rfl, ?_⟩, rintS S (by omega) (by omega) fun h1 S1 => ⟨_, rfl, ?_⟩⟩
  all_goals
    try simp only [bd, someE, rdS (S1.rc m 2 rfl), rdS ((S1.al [.int .u64 (numN (takeP (c.toNat - 48) s).1 : Nat)] T.uint64).rc m 2 rfl), and_self]
    refine St.push1 sl_uint64 S1 m 2 y.n rfl (by simp) (by omega) (by omega) fun p cc h2 S2 => hK h2 (St.p1 (MB.cl ⟨(p, y.n.2.1 + 1, cc), y.s, y.f, y.t⟩ B ?_))
    have e : nums x.N ++ [.int .u64 (numN (takeP (c.toNat - 48) s).1 : Nat)] = nums (x.N ++ [numN (takeP (c.toNat - 48) s).1]) := by simp [nums]
    simp only [e, List.set_cons_succ, List.set_cons_zero] at S2
    exact S2.to

/-- What a form's letters say. -/
def formR : Nat → Oct → RS → PM → Bool → PM × Bool × RS
  | 0, _, s, x, ok => (x, ok, s)
  | k + 1, f, s, x, ok =>
    if f = [] then (x, ok, s)
    else if 0 < flagsP f then formR k (f.drop (flagsP f)) (unpackP (flagsP f) 0 0 s).2 { x with F := x.F ++ (unpackP (flagsP f) 0 0 s).1 } ok
    else formR k (f.drop 1) (oneP (f.getD 0 0) s x).2.2 (oneP (f.getD 0 0) s x).1 ((oneP (f.getD 0 0) s x).2.1 && ok)

def goodForm (f : Oct) : Prop := (∀ c ∈ f, c = 102 ∨ letter c) ∧ f.length < 16

theorem flagsP_zero {f : Oct} (h : ¬ 0 < flagsP f) (hf : f ≠ []) : f.getD 0 0 ≠ 102 := by
  cases f with
  | nil => exact absurd rfl hf
  | cons c t =>
    intro e
    simp only [List.getD_cons_zero] at e
    unfold flagsP at h
    rw [if_pos e] at h
    omega

theorem goodForm.drop {f : Oct} (g : goodForm f) (n : Nat) : goodForm (f.drop n) := ⟨fun c hc => g.1 c (List.mem_of_mem_drop hc), by have := g.2; simp; omega⟩

theorem oneP_len (c : UInt8) (s : RS) (x : PM) : (oneP c s x).1.N.length ≤ x.N.length + 1 ∧ (oneP c s x).1.S.length ≤ x.S.length + 1 ∧ (oneP c s x).1.F = x.F := by
  unfold oneP
  split
  · simp
  split
  · simp
  split
  · simp
  · simp

theorem Parse_loop {r m m0 : Addr} {a b : Int} {xe : PM} {oke : Bool} {se : RS}
    (hK : ∀ h', St (RdA r se :: MB m a b xe :: L) h' → meth_Parse.j1 K m0 (some r) m oke h') :
    ∀ (fuel : Nat) (f : Oct) (s : RS) (x : PM) (ok : Bool) (h : Heap), goodForm f → f.length < fuel → x.N.length + f.length < 2000 → x.S.length + f.length < 2000 → x.F.length + f.length < 2000 → formR fuel f s x ok = (xe, oke, se) →
      St (RdA r s :: MB m a b x :: L) h → meth_Parse.L3 K fuel m0 (some r) m f ok h
  | 0, _, _, _, _, _, _, hf, _, _, _, _, _ => absurd hf (Nat.not_lt_zero _)
  | fuel + 1, f, s, x, ok, h, g, hf, hN, hS, hF, he, S => by
    unfold meth_Parse.L3
    unfold formR at he
    by_cases e0 : f = []
    · rw [if_pos e0] at he
      cases he
      exact ifF (by simp [e0]) (hK h S)
    rw [if_neg e0] at he
    have hpos := List.length_pos_iff.2 e0
    have hfl := flagsP_le f
    refine ifT (by simp [e0]) ?_
    refine flags.spec (by have := g.2; omega) ⟨_, rfl, ?_⟩
    by_cases h1 : 0 < flagsP f
    · rw [if_pos h1] at he
      refine ifT (by simp; omega) ?_
      obtain ⟨y, B, S1⟩ := MB.op S.p1
      have lF : y.f.2.1 = x.F.length := by have := (S1.ows 1 y.f).1; simp only [bools, List.length_map, Nat.mul_one] at this; omega
      simp only [rdS (S1.rc m 4 rfl)]
      refine ⟨?_, ?_⟩
      all_goals
        refine unpackS S1 (by omega) fun p l c h2 S2 => ⟨_, _, _, rfl, ?_⟩
        try simp only [rdS (S2.rc m 4 rfl)]
        have sl := (S2.osl 1 (p, l, c))
        have lU := sl.1
        simp only [bools, List.length_map, Nat.mul_one, unpackP_len] at lU
        refine St.pushS sl_bool u_slb (fun k e => by cases e) S2 m 4 y.f (Src.slice sl (bools_one _)) (by simp) (by omega) (by omega) fun p2 c2 h3 S3 => ?_
        unfold meth_Parse.j4
        refine ⟨⟨by omega, by omega⟩, ?_⟩
        simp only [bd, Int.toNat_natCast]
        have e : bools x.F ++ bools (unpackP (flagsP f) 0 0 s).1 = bools (x.F ++ (unpackP (flagsP f) 0 0 s).1) := by simp [bools]
        simp only [e, List.set_cons_succ, List.set_cons_zero] at S3
        have S4 : St (MB m a b { x with F := x.F ++ (unpackP (flagsP f) 0 0 s).1 } :: RdA r (unpackP (flagsP f) 0 0 s).2 :: L) h3 := MB.cl ⟨y.n, y.s, (p2, y.f.2.1 + l, c2), y.t⟩ B S3.to
        exact Parse_loop hK fuel _ _ _ ok h3 (g.drop _) (by simp; omega) (by simp; omega) (by simp; omega) (by simp [unpackP_len]; omega) he S4.p1
    · rw [if_neg h1] at he
      refine ifF (by simp; omega) ⟨by omega, by omega, ?_⟩
      have hmem : f.getD 0 0 ∈ f := by
        cases f with
        | nil => exact absurd rfl e0
        | cons c t => simp
      have hc : letter (f.getD 0 0) := (g.1 _ hmem).resolve_left (flagsP_zero h1 e0)
      have elb : lb f 0 = ((f.getD 0 0).toNat : Int) := rfl
      rw [elb]
      have ol := oneP_len (f.getD 0 0) s x
      refine oneS (a := a) (b := b) (x := x) S hc (by omega) (by omega) fun h2 S2 => ⟨_, rfl, ?_⟩
      have fin : ∀ ok', ok' = ((oneP (f.getD 0 0) s x).2.1 && ok) → meth_Parse.j4 K (meth_Parse.L3 K fuel) m0 (some r) m f ok' 1 h2 := by
        intro ok' e
        subst e
        unfold meth_Parse.j4
        refine ⟨⟨by omega, by omega⟩, ?_⟩
        simp only [bd]
        exact Parse_loop hK fuel (f.drop 1) (oneP (f.getD 0 0) s x).2.2 (oneP (f.getD 0 0) s x).1 _ h2 (g.drop 1) (by rw [List.length_drop]; omega) (by rw [List.length_drop]; omega) (by rw [List.length_drop]; omega) (by rw [List.length_drop, ol.2.2]; omega) he S2
      cases hb : (oneP (f.getD 0 0) s x).2.1 with
      | true => exact ifT rfl (fin ok (by rw [hb]; rfl))
      | false => exact ifF rfl (fin false (by rw [hb]; rfl))

theorem forms_good : ∀ x ∈ knownL, goodForm x.2 := by
  have h : knownL.all (fun x => x.2.all (fun c => c = 102 ∨ c = 115 ∨ c = 108 ∨ c = 116 ∨ (49 ≤ c.toNat ∧ c.toNat ≤ 56)) && decide (x.2.length < 16)) = true := by decide +kernel
  intro x hx
  have := List.all_eq_true.1 h x hx
  rw [Bool.and_eq_true, List.all_eq_true] at this
  exact ⟨fun c hc => by simpa [letter] using this.1 c hc, by simpa using this.2⟩
theorem formP_good {c : Int × Int} {f : Oct} (h : formP c = some f) : goodForm f := forms_good (c, f) (get?_mem h)

def noM : PM := ⟨[], [], [], []⟩

/-- The method that octets are, or the error. -/
def methP (b : Oct) : Sum Nat (Int × Int × PM) :=
  if (takeP 2 (takeP 2 (b, false)).2).2.2 = true then .inl 4
  else match formP ((numN (takeP 2 (b, false)).1 : Int), (numN (takeP 2 (takeP 2 (b, false)).2).1 : Int)) with
    | none => .inl 5
    | some f =>
      if (formR (f.length + 1) f (takeP 2 (takeP 2 (b, false)).2).2 noM true).2.1 = false ∨ (formR (f.length + 1) f (takeP 2 (takeP 2 (b, false)).2).2 noM true).2.2.2 = true ∨
          (formR (f.length + 1) f (takeP 2 (takeP 2 (b, false)).2).2 noM true).2.2.1 ≠ [] then .inl 4
      else .inr ((numN (takeP 2 (b, false)).1 : Int), (numN (takeP 2 (takeP 2 (b, false)).2).1 : Int), (formR (f.length + 1) f (takeP 2 (takeP 2 (b, false)).2).2 noM true).1)

def resE (r : Sum Nat (Int × Int × PM)) : Nat := match r with | .inl e => e | .inr _ => 0
def resM (r : Sum Nat (Int × Int × PM)) : Int × Int × PM := match r with | .inl _ => (0, 0, noM) | .inr m => m

abbrev mnil : MV := ⟨(none, 0, 0), (none, 0, 0), (none, 0, 0), (none, 0, 0)⟩

theorem meNil (S : St L h) : St (Im 1 mnil.n (nums []) :: Im 1 mnil.s (strs []) :: Im 1 mnil.f (bools []) :: Tb (fun _ => False) mnil.t [] :: L) h := (((tbNil 0 S).imNil 1 0).imNil 1 0).imNil 1 0

theorem numN2_lt {b : Oct} (h : b.length ≤ 2) : numN b < 65536 := by
  match b, h with
  | [], _ => decide
  | [x], _ => have := x.toNat_lt; simp [numN]; omega
  | [x, y], _ => have := x.toNat_lt; have := y.toNat_lt; simp [numN]; omega

theorem methS {s : SV} {bs : Oct} (S : St L h) [In (fun b => Im 1 s (u8s b)) L bs] (hb : bs.length < 1099511627776)
    (hK : ∀ y B h', St (Im 1 y.n (nums (resM (methP bs)).2.2.N) :: Im 1 y.s (strs (resM (methP bs)).2.2.S) :: Im 1 y.f (bools (resM (methP bs)).2.2.F) :: Tb B y.t (resM (methP bs)).2.2.T :: L) h' →
      K (.tuple #[.agg (List.toArray (mcells (resM (methP bs)).1 (resM (methP bs)).2.1 y)), .int .i64 (resE (methP bs) : Nat)]) h') : CallsH P F.meth_Parse [.slice s.1 s.2.1 s.2.2] K h := by
  refine meth_Parse.ok ?_
  unfold meth_Parse.p0
  simp only [bd]
  have S1 := S.al (mcells 0 0 mnil) T.api_Method
  generalize al h (mcells 0 0 mnil).toArray T.api_Method = h1 at *
  generalize top h = m0 at *
  have err : ∀ (e : Nat) (h' : Heap), methP bs = .inl e → St (Bx m0 (mcells 0 0 mnil) :: L) h' →
      ([.int .i64 0, .int .i64 0, .slice none 0 0, .slice none 0 0, .slice none 0 0, .slice none 0 0] : List Value).length = 6 ∧ ∃ h16, stC h' m0 0 [.int .i64 0, .int .i64 0, .slice none 0 0, .slice none 0 0, .slice none 0 0, .slice none 0 0] = some h16 ∧ ∃ cs17, rdC h16 m0 0 6 = some cs17 ∧ K (.tuple #[.agg (List.toArray cs17), .int .i64 e]) h16 := by
    intro e h' he S'
    rw [he] at hK
    refine ⟨rfl, S'.putA m0 rfl (by simp [one]) fun h2 S2 => ⟨_, S2.rall m0 6 rfl, hK mnil _ h2 (meNil S2.tl)⟩⟩
  refine fromS (s := s) (bs := bs) S1 hb fun h2 S2 => ⟨_, rfl, ?_⟩
  generalize top h1 = r at *
  refine rintS (n := 2) S2 (by omega) (by omega) fun h3 S3 => ⟨_, rfl, rintS (n := 2) S3 (by omega) (by omega) fun h4 S4 => ⟨_, rfl, ?_⟩⟩
  have n1 : numN (takeP 2 (bs, false)).1 < 65536 := numN2_lt (by unfold takeP; split <;> simp; omega)
  have n2 : numN (takeP 2 (takeP 2 (bs, false)).2).1 < 65536 := numN2_lt (by generalize (takeP 2 (bs, false)).2 = z; unfold takeP; split <;> simp; omega)
  rw [wrapI (by omega) (by omega), wrapI (by omega) (by omega)]
  have S5 := S4.al (mcells 0 0 mnil) T.api_Method
  refine ⟨rfl, S5.putA (top h4) rfl (by simp [one]) fun h5 S6 => ?_⟩
  clear S5
  generalize top h4 = m at *
  unfold methP at hK err
  generalize (numN (takeP 2 (bs, false)).1 : Int) = cl at *
  generalize (numN (takeP 2 (takeP 2 (bs, false)).2).1 : Int) = id at *
  generalize (takeP 2 (takeP 2 (bs, false)).2).2 = st at *
  refine okS S6 ⟨_, rfl, ?_⟩
  cases hbad : st.2 with
  | true =>
    refine ifT (by simp) ?_
    simp only [hbad, if_true] at err
    exact err 4 h5 rfl S6.to
  | false =>
    refine ifF (by simp) ?_
    simp only [hbad, Bool.false_eq_true, if_false] at err hK
    simp only [rdN (S6.rc m 0 rfl), rdN (S6.rc m 1 rfl)]
    refine Form.spec fun h6 k6 => ⟨_, _, rfl, ?_⟩
    have S7 := S6.kept k6
    cases hf : formP (cl, id) with
    | none =>
      simp only [hf] at err
      exact ifT (by rfl) (err 5 h6 rfl S7.to)
    | some f =>
      simp only [hf] at err hK
      refine ifF (by rfl) ?_
      have g := formP_good hf
      have S8 : St (MB m cl id noM :: RdA r st :: Bx m0 (mcells 0 0 mnil) :: L) h6 := MB.cl mnil (fun _ => False) (((((tbNil 0 S7).owNil 1).owNil 1).owNil 1).p4)
      refine ⟨f.length + 1, Parse_loop (xe := (formR (f.length + 1) f st noM true).1) (oke := (formR (f.length + 1) f st noM true).2.1) (se := (formR (f.length + 1) f st noM true).2.2) (L := Bx m0 (mcells 0 0 mnil) :: L) (fun h7 S9 => ?_) _ f st noM true h6 g (by omega) (by have := g.2; simp [noM]; omega) (by have := g.2; simp [noM]; omega) (by have := g.2; simp [noM]; omega) rfl S8.p1⟩
      unfold meth_Parse.j1
      have bad : (formR (f.length + 1) f st noM true).2.1 = false ∨ (formR (f.length + 1) f st noM true).2.2.2 = true ∨ (formR (f.length + 1) f st noM true).2.2.1 ≠ [] → meth_Parse.j2 K m0 m true h7 := by
        intro hc
        unfold meth_Parse.j2
        refine ifT rfl (err 4 h7 ?_ S9.to)
        exact if_pos hc
      cases h1 : (formR (f.length + 1) f st noM true).2.1 with
      | false => exact ifT' (by simp) (bad (.inl h1))
      | true =>
        refine ifF' (by simp) (okS S9 ⟨_, rfl, ?_⟩)
        cases h2 : (formR (f.length + 1) f st noM true).2.2.2 with
        | true => exact ifT' (by simp) (bad (.inr (.inl h2)))
        | false =>
          refine ifF' (by simp) (leftS S9 ⟨_, rfl, ?_⟩)
          by_cases h3 : (formR (f.length + 1) f st noM true).2.2.1 = []
          · rw [decide_eq_false (by rw [h3]; decide)]
            unfold meth_Parse.j2
            refine ifF rfl ?_
            obtain ⟨y, B, S10⟩ := MB.op S9.p1
            refine ⟨_, S10.rall m 6 rfl, rfl, S10.putA m0 rfl (by simp [one]) fun h8 S11 => ⟨_, S11.rall m0 6 rfl, ?_⟩⟩
            have hfin := hK y B h8
            rw [if_neg (by simp [h1, h2, h3])] at hfin
            simp only [resM, resE] at hfin
            exact hfin ((((S11.fz 1 y.f).fz 1 y.s).fz 1 y.n)).to
          · rw [decide_eq_true (by have := List.length_pos_iff.2 h3; omega)]
            exact bad (.inr (.inr h3))
end
end Go.Proofs.Ytpfnfmlibpoleaa.Pr
