/- MethFlags over the heap: flags beside each other share octets, from the lowest bit on. -/
import Derived.Test.YtpfnfmlibpoleaaRefSame
import Derived.Test.YtpfnfmlibpoleaaBitsP
import Derived.Test.YtpfnfmlibpoleaaPrLaw4Methflags
set_option linter.unusedVariables false
set_option linter.unusedSimpArgs false
namespace Go.Proofs.Ytpfnfmlibpoleaa.Pr
open Go Go.Lift Go.Proofs

/-- A bit of a whole number. -/
def ibit (f : Int) (i : Nat) : Bool := f / ((2 ^ i : Nat) : Int) % 2 == 1
def five (f : Int) (i : Nat) : List Bool := (List.range 5).map fun j => decide (j < i) && ibit f j
theorem five_set (f : Int) (i : Nat) (hi : i < 5) : (five f i).set i (ibit f i) = five f (i + 1) := by
  apply List.ext_getElem?
  intro j
  rw [List.getElem?_set]
  by_cases hj : j < 5
  · by_cases e : i = j
    · subst e; simp [five, hj]
    · have : (j < i + 1) ↔ j < i := by omega
      simp [five, hj, e, this]
  · have : ¬ i = j := by omega
    simp [five, hj, this]
theorem five_all (f : Int) : five f 5 = [ibit f 0, ibit f 1, ibit f 2, ibit f 3, ibit f 4] := by simp [five, List.range, List.range.loop]

def bval (b : Bool) : Nat := if b then 1 else 0
def fval (b0 b1 b2 b3 b4 : Bool) : Nat := bval b0 + 2 * bval b1 + 4 * bval b2 + 8 * bval b3 + 16 * bval b4
theorem flags_write : ∀ b0 b1 b2 b3 b4 : Bool, methW 40 10 ⟨[0], [[101], [116]], [b0, b1, b2, b3, b4], []⟩ = some [0, 40, 0, 10, 0, 0, 1, 101, 1, 116, UInt8.ofNat (fval b0 b1 b2 b3 b4), 0, 0, 0, 0] := by decide +kernel
theorem flags_read' : (fun x : UInt8 => methP [0, 40, 0, 10, 0, 0, 1, 101, 1, 116, x, 0, 0, 0, 0]) = fun x => .inr (40, 10, ⟨[0], [[101], [116]], [bitOf (numN [x]) 0, bitOf (numN [x]) 1, bitOf (numN [x]) 2, bitOf (numN [x]) 3, bitOf (numN [x]) 4], []⟩) := by kernel_rfl
theorem flags_read2' : (fun x : UInt8 => methP [0, 60, 0, 120, 0, 0, 0, 0, 0, 0, 0, 9, x]) = fun x => .inr (60, 120, ⟨[9], [], [bitOf (numN [x]) 0, bitOf (numN [x]) 1], []⟩) := by kernel_rfl
theorem numN1 (x : UInt8) : numN [x] = x.toNat := by have := x.toNat_lt; unfold numN; simp only [List.foldl_cons, List.foldl_nil]; omega

theorem fval_eq (f : Int) : ((fval (ibit f 0) (ibit f 1) (ibit f 2) (ibit f 3) (ibit f 4) : Nat) : Int) = f % 32 := by
  unfold fval bval ibit
  simp only [Nat.pow_zero, Nat.pow_succ, Nat.one_mul, Nat.reduceMul]
  simp only [beq_iff_eq]
  repeat' split
  all_goals omega
theorem bit_mix (f r : Int) (i : Nat) (hi : i < 5) : bitOf ((f % 32).toNat + 32 * (r % 8).toNat) i = ibit f i := by
  unfold bitOf ibit
  rw [Bool.eq_iff_iff, beq_iff_eq, beq_iff_eq]
  rcases i with _ | _ | _ | _ | _ | i
  all_goals simp only [Nat.pow_zero, Nat.pow_succ, Nat.one_mul, Nat.reduceMul, Nat.zero_add, Nat.reduceAdd] at *
  all_goals omega

section
variable {K : KT} {L R : List Asr} {h : Heap}

theorem fl_make {t0 t1 : Int} {s : SV} (hs : s.2.1 = 5) (hK : ∀ h', St (Ow 1 s (bools (five t0 5)) :: L) h' → waybilllaw4_MethFlags.j1 K t0 t1 s.1 s.2.1 s.2.2 h') :
    ∀ (fuel i : Nat) (h : Heap), 5 - i < fuel → i ≤ 5 → St (Ow 1 s (bools (five t0 i)) :: L) h → waybilllaw4_MethFlags.L6 K fuel t0 t1 s.1 s.2.1 s.2.2 5 i h
  | 0, _, _, hf, _, _ => absurd hf (Nat.not_lt_zero _)
  | fuel + 1, i, h, hf, hi, S => by
    unfold waybilllaw4_MethFlags.L6
    by_cases hlt : i < 5
    · refine ifT (by simp; omega) ?_
      rw [wrap_len (by omega)]
      refine ⟨by omega, S.owSet (n := i) rfl (by simp [bools, five]; omega) rfl fun h2 S2 => ?_⟩
      rw [wsucc (by omega)]
      have e : (bools (five t0 i)).set i (.bool (bitsI .and .i64 (shrI .i64 t0 (i : Int)) 1 == 1)) = bools (five t0 (i + 1)) := by
        rw [← five_set t0 i hlt, m1, shr_i64 t0 i (by omega)]
        simp [bools, List.map_set, ibit]
      rw [e] at S2
      exact fl_make hs hK fuel (i + 1) h2 (by omega) (by omega) S2
    · refine ifF (by simp; omega) ?_
      obtain rfl : i = 5 := by omega
      exact hK h S

theorem fl_same {t1 : Int} {s : SV} {a : Addr} {y : MV} {c1 c2 : Int} {l : List Bool} (hl : l.length = 5) (hK : ∀ h', St L h' → waybilllaw4_MethFlags.j4 K t1 h') (S : St L h) {R1 : List Asr} [Has (Bx a) L (mcells c1 c2 y) R1] [In (Im 1 s) L (bools l)] [In (Im 1 y.f) L (bools l)] :
    ∀ (fuel i : Nat), 5 - i < fuel → i ≤ 5 → waybilllaw4_MethFlags.L5 K fuel t1 s.1 s.2.1 s.2.2 a 5 i h
  | 0, _, hf, _ => absurd hf (Nat.not_lt_zero _)
  | fuel + 1, i, hf, hi => by
    unfold waybilllaw4_MethFlags.L5
    have s1 := S.isl 1 s
    have s2 := S.isl 1 y.f
    have l1 := s1.1
    have l2 := s2.1
    simp only [bools, List.length_map, Nat.mul_one] at l1 l2
    by_cases hlt : i < 5
    · have hil : i < l.length := by omega
      refine ifT (by simp; omega) ?_
      simp only [rdS (S.rc a 4 rfl)]
      refine ixV s1 (w := .bool l[i]) rfl (by simp [bools, hil]) fun q eq cq => ?_
      refine ixV s2 (w := .bool l[i]) rfl (by simp [bools, hil]) fun q2 eq2 cq2 => ?_
      simp only [rdB cq, rdB cq2]
      refine ⟨fun e => absurd e (by simp), fun _ => ?_⟩
      rw [wsucc (by omega)]
      exact fl_same hl hK S fuel (i + 1) (by omega) (by omega)
    · exact ifF (by simp; omega) (hK h S)
end

theorem MethFlags.law (a : Int) (ha : -9223372036854775808 ≤ a ∧ a < 9223372036854775808) (b : Int) (hb : -9223372036854775808 ≤ b ∧ b < 9223372036854775808) (h : Heap) : CallsH P F.waybilllaw4_MethFlags [.int .i64 a, .int .i64 b] (fun v h' => v = .bool true ∧ Kept h h') h := by
  refine waybilllaw4_MethFlags.ok ?_
  unfold waybilllaw4_MethFlags.p0
  refine St.make1 sl_bool (n := 5) (k := 5) rfl (St.old h) (by omega) (by omega) fun h1 S1 => ⟨_, _, _, rfl, 6, ?_⟩
  refine fl_make (s := (some (top h), 5, 5)) rfl (fun h2 S2 => ?_) 6 0 h1 (by omega) (by omega) S1
  rw [five_all] at S2
  have hfe := fval_eq a
  have hbm := bit_mix a b
  have i0 := hbm 0 (by omega)
  have i1 := hbm 1 (by omega)
  have i2 := hbm 2 (by omega)
  have i3 := hbm 3 (by omega)
  have i4 := hbm 4 (by omega)
  have hw := flags_write (ibit a 0) (ibit a 1) (ibit a 2) (ibit a 3) (ibit a 4)
  clear hbm
  generalize ibit a 0 = b0 at *
  generalize ibit a 1 = b1 at *
  generalize ibit a 2 = b2 at *
  generalize ibit a 3 = b3 at *
  generalize ibit a 4 = b4 at *
  generalize htp : top h = tp at *
  have S2' := S2.fz 1 (some tp, 5, 5)
  unfold waybilllaw4_MethFlags.j1
  simp only [bd]
  have S3 : St (Im 1 (some (top h2), 1, 1) (nums [0]) :: _) (al h2 #[.int .u64 0] T.uint64) := S2'.lit (nums [0]) T.uint64 1 rfl
  generalize al h2 #[.int .u64 0] T.uint64 = h3 at *
  have S4 : St (Im 1 (some (top h3), 2, 2) (strs [[101], [116]]) :: _) (al h3 #[.string (mkS [101]), .string (mkS [116])] T.string) := S3.lit (strs [[101], [116]]) T.string 2 rfl
  generalize al h3 #[.string (mkS [101]), .string (mkS [116])] T.string = h4 at *
  have S5 : St (Im 1 (none, 0, 0) (u8s []) :: Tb (fun _ => False) (none, 0, 0) [] :: _) h4 := (tbNil 0 S4).imNil 1 0
  refine mappS (t := (none, 0, 0)) (bs := []) (a := 40) (b := 10) (y := ⟨(some (top h2), 1, 1), (some (top h3), 2, 2), (some tp, 5, 5), (none, 0, 0)⟩) (x := ⟨[0], [[101], [116]], [b0, b1, b2, b3, b4], []⟩) (B := fun _ => False) S5 ⟨by simp, by simp, by simp, by simp, by simp, fun f hf => (by cases hf), by simp⟩ (by simp) (by decide) (by decide) fun p l c h5 S6 => ⟨_, _, _, _, rfl, ?_⟩
  rw [hw] at S6 ⊢
  simp only [List.nil_append, Option.getD_some, Option.isSome_some] at S6 ⊢
  have sl := S6.sl
  have ll : l = 15 := Sl.len sl
  subst ll
  refine ifF' rfl (ifF' rfl (ixV (i := 10) (n := 10) sl rfl (w := .int .u8 ((UInt8.ofNat (fval b0 b1 b2 b3 b4)).toNat : Int)) rfl fun q eq cq => ?_))
  simp only [rdN cq]
  have hlt32 : fval b0 b1 b2 b3 b4 < 32 := by omega
  have ew : IntKind.u8.wrap (bitsI .and .i64 a 31) = (((UInt8.ofNat (fval b0 b1 b2 b3 b4)).toNat : Nat) : Int) := by
    rw [m31, ← hfe, IntKind.wrap_u8', UInt8.toNat_ofNat']; omega
  rw [ew]
  unfold waybilllaw4_MethFlags.j2
  refine ifF (by simp) ⟨by omega, ?_⟩
  have hx : IntKind.u8.wrap (bitsI .or .i64 (bitsI .and .i64 a 31) (shlI .i64 (bitsI .and .i64 b 7) 5)) = (((UInt8.ofNat ((a % 32).toNat + 32 * (b % 8).toNat)).toNat : Nat) : Int) := by
    have h32 : 0 ≤ a % 32 := Int.emod_nonneg _ (by decide)
    have h8 : 0 ≤ b % 8 := Int.emod_nonneg _ (by decide)
    have es : shlI .i64 (b % 8) 5 = ((32 * (b % 8).toNat : Nat) : Int) := by
      simp only [shlI, IntKind.bits]
      rw [show (min (5 : Int).toNat 64) = 5 from rfl, wrapI (by omega) (by omega)]
      omega
    rw [m31, m7, es, show a % 32 = (((a % 32).toNat : Nat) : Int) by omega, or_i64 _ _ (by omega) (by omega)]
    have hor : ((a % 32).toNat ||| 32 * (b % 8).toNat) = (a % 32).toNat + 32 * (b % 8).toNat := by
      have := Nat.two_pow_add_eq_or_of_lt (i := 5) (b := (a % 32).toNat) (by omega) (b % 8).toNat
      rw [show 2 ^ 5 = 32 from rfl] at this
      rw [Nat.or_comm, ← this, Nat.add_comm]
    rw [hor, IntKind.wrap_u8', UInt8.toNat_ofNat']
    omega
  rw [hx]
  generalize hxx : UInt8.ofNat ((a % 32).toNat + 32 * (b % 8).toNat) = x at *
  have hxn : numN [x] = (a % 32).toNat + 32 * (b % 8).toNat := by rw [numN1, ← hxx, UInt8.toNat_ofNat']; omega
  refine S6.owSet (n := 10) (i := 10) rfl (by simp [u8s]) rfl fun h6 S7 => ?_
  have eset : (u8s [0, 40, 0, 10, 0, 0, 1, 101, 1, 116, UInt8.ofNat (fval b0 b1 b2 b3 b4), 0, 0, 0, 0]).set 10 (.int .u8 (x.toNat : Int)) = u8s [0, 40, 0, 10, 0, 0, 1, 101, 1, 116, x, 0, 0, 0, 0] := rfl
  rw [eset] at S7
  have S8 := S7.fz 1 (p, 15, c)
  refine methS (s := (p, 15, c)) (bs := [0, 40, 0, 10, 0, 0, 1, 101, 1, 116, x, 0, 0, 0, 0]) S8 (by simp) fun y B h7 S9 => ⟨_, _, rfl, ?_⟩
  have er : methP [0, 40, 0, 10, 0, 0, 1, 101, 1, 116, x, 0, 0, 0, 0] = .inr (40, 10, ⟨[0], [[101], [116]], [b0, b1, b2, b3, b4], []⟩) := by
    have := congrFun flags_read' x
    rw [this, hxn, i0, i1, i2, i3, i4]
  rw [er] at S9 ⊢
  simp only [resE, resM] at S9 ⊢
  have S10 := S9.al (mcells 0 0 mnil) T.api_Method
  refine ⟨rfl, S10.putA (top h7) rfl (by simp [one]) fun h8 S11 => ?_⟩
  clear S10
  generalize top h7 = m at *
  simp only [rdS (S11.rc m 4 rfl)]
  have lf := (S11.isl 1 y.f).1
  have lf' : y.f.2.1 = 5 := by simp only [bools, List.length_map, List.length_cons, List.length_nil, Nat.mul_one] at lf; omega
  rw [lf']
  refine ifF' rfl ?_
  unfold waybilllaw4_MethFlags.j3
  refine ifF (by simp) ⟨6, fl_same (s := (some tp, 5, 5)) (l := [b0, b1, b2, b3, b4]) rfl (fun h9 S12 => ?_) S11 6 0 (by omega) (by omega)⟩
  unfold waybilllaw4_MethFlags.j4
  simp only [bd]
  have ey : IntKind.u8.wrap b = (((UInt8.ofNat (b % 256).toNat).toNat : Nat) : Int) := wrap_oct8 b
  rw [ey]
  have hyn : numN [UInt8.ofNat (b % 256).toNat] = (b % 256).toNat := by rw [numN1, UInt8.toNat_ofNat']; omega
  generalize UInt8.ofNat (b % 256).toNat = z at *
  have S13 : St (Im 1 (some (top h9), 13, 13) (u8s [0, 60, 0, 120, 0, 0, 0, 0, 0, 0, 0, 9, z]) :: _) (al h9 #[.int .u8 0, .int .u8 60, .int .u8 0, .int .u8 120, .int .u8 0, .int .u8 0, .int .u8 0, .int .u8 0, .int .u8 0, .int .u8 0, .int .u8 0, .int .u8 9, .int .u8 (z.toNat : Int)] T.uint8) :=
    S12.lit (u8s [0, 60, 0, 120, 0, 0, 0, 0, 0, 0, 0, 9, z]) T.uint8 13 rfl
  refine methS (s := (some (top h9), 13, 13)) (bs := [0, 60, 0, 120, 0, 0, 0, 0, 0, 0, 0, 9, z]) S13 (by simp) fun y2 B2 h10 S14 => ⟨_, _, rfl, ?_⟩
  have er2 := congrFun flags_read2' z
  rw [er2, hyn] at S14
  rw [er2]
  simp only [resE, resM] at S14 ⊢
  have S15 := S14.al (mcells 0 0 mnil) T.api_Method
  refine ⟨rfl, S15.putA (top h10) rfl (by simp [one]) fun h11 S16 => ?_⟩
  clear S15
  generalize top h10 = m2' at *
  simp only [rdS (S16.rc m2' 2 rfl), rdS (S16.rc m2' 4 rfl)]
  have sn := S16.isl 1 y2.n
  have sf := S16.isl 1 y2.f
  have ln : y2.n.2.1 = 1 := by have := sn.1; simp only [nums, List.length_map, List.length_cons, List.length_nil, Nat.mul_one] at this; omega
  have lf2 : y2.f.2.1 = 2 := by have := sf.1; simp only [bools, List.length_map, List.length_cons, List.length_nil, Nat.mul_one] at this; omega
  have t0 : bitOf (b % 256).toNat 0 = (bitsI .and .i64 b 1 == 1) := by
    rw [m1]; unfold bitOf; rw [Bool.eq_iff_iff, beq_iff_eq, beq_iff_eq]; simp only [Nat.pow_zero]; omega
  have t1 : bitOf (b % 256).toNat 1 = (bitsI .and .i64 b 2 == 2) := by
    rw [m2]; unfold bitOf; rw [Bool.eq_iff_iff, beq_iff_eq, beq_iff_eq]; simp only [Nat.pow_one]; omega
  refine ifT rfl (ifT (by rw [ln]; rfl) (ifT (by rw [lf2]; rfl) ?_))
  refine ixV (i := 0) (n := 0) sn rfl (w := .int .u64 9) rfl fun q3 eq3 cq3 => ?_
  simp only [rdN cq3]
  refine ifT rfl ?_
  refine ixV (i := 0) (n := 0) sf rfl (w := .bool (bitOf (b % 256).toNat 0)) rfl fun q4 eq4 cq4 => ?_
  simp only [rdB cq4]
  refine ifT (by rw [t0]; simp) (ixV (i := 1) (n := 1) sf rfl (w := .bool (bitOf (b % 256).toNat 1)) rfl fun q5 eq5 cq5 => ?_)
  simp only [rdB cq5]
  refine ifT (by rw [t1]; simp) (awakeS S16 fun h12 S17 => ⟨_, rfl, rfl, ?_⟩)
  have S18 : St [Old h] h12 := S17.to
  exact S18.keptOld (List.mem_cons_self ..)
end Go.Proofs.Ytpfnfmlibpoleaa.Pr
