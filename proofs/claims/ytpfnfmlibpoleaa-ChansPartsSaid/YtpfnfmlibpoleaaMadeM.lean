/- A method of some form, of numbers and texts: what the statements' own maker makes. -/
import Derived.Test.YtpfnfmlibpoleaaRefSame
import Derived.Test.YtpfnfmlibpoleaaBitsP
import Derived.Test.YtpfnfmlibpoleaaPrLaw4Made
set_option linter.unusedVariables false
set_option linter.unusedSimpArgs false
namespace Go.Proofs.Ytpfnfmlibpoleaa.Pr
open Go Go.Lift Go.Proofs

def gbit (f : Int) (i : Nat) : Bool := f / ((2 ^ i : Nat) : Int) % 2 == 1

theorem getD_lt {α : Type} (l : List α) (d : α) {i : Nat} (h : i < l.length) : l.getD i d = l[i] := by simp [List.getD, h]
theorem getD_ge {α : Type} (l : List α) (d : α) {i : Nat} (h : l.length ≤ i) : l.getD i d = d := by simp [List.getD, h]

/-- What one letter takes. -/
def madeOne (n : List Nat) (s : List Oct) (f : Int) (t : List PF) (tok : Bool) (x : PM) (c : UInt8) : PM :=
  if c = 115 ∨ c = 108 then { x with S := x.S ++ [(s.getD x.S.length []).take 255] }
  else if c = 116 then (if tok then { x with T := t } else x)
  else if c = 102 then { x with F := x.F ++ [gbit f x.F.length] }
  else { x with N := x.N ++ [n.getD x.N.length 0 % 256 ^ (c.toNat - 48)] }
def madeF (n : List Nat) (s : List Oct) (f : Int) (t : List PF) (tok : Bool) (form : Oct) : PM := form.foldl (madeOne n s f t tok) noM
def madeC (which : Int) : (Int × Int) × Oct := knownL.getD ((which % 65536).toNat % 49) ((0, 0), [])

theorem madeC_mem (w : Int) : madeC w ∈ knownL := by
  have : (w % 65536).toNat % 49 < knownL.length := by rw [show knownL.length = 49 from rfl]; omega
  unfold madeC
  rw [getD_lt _ _ this]
  exact List.getElem_mem _
theorem madeC_form (w : Int) : formP (madeC w).1 = some (madeC w).2 := by
  have : ∀ x ∈ knownL, formP x.1 = some x.2 := by decide +kernel
  exact this _ (madeC_mem w)
theorem madeC_good (w : Int) : goodForm (madeC w).2 := forms_good _ (madeC_mem w)
theorem madeC_rng (w : Int) : 0 ≤ (madeC w).1.1 ∧ (madeC w).1.1 < 256 ∧ 0 ≤ (madeC w).1.2 ∧ (madeC w).1.2 < 256 := by
  have : ∀ x ∈ knownL, 0 ≤ x.1.1 ∧ x.1.1 < 256 ∧ 0 ≤ x.1.2 ∧ x.1.2 < 256 := by decide +kernel
  exact this _ (madeC_mem w)

theorem madeOne_len (n : List Nat) (s : List Oct) (f : Int) (t : List PF) (tok : Bool) (x : PM) (c : UInt8) : (madeOne n s f t tok x c).N.length ≤ x.N.length + 1 ∧ (madeOne n s f t tok x c).S.length ≤ x.S.length + 1 ∧ (madeOne n s f t tok x c).F.length ≤ x.F.length + 1 := by
  unfold madeOne
  split
  · simp
  split
  · split <;> simp
  split <;> simp
theorem madeF_len (n : List Nat) (s : List Oct) (f : Int) (t : List PF) (tok : Bool) (form : Oct) : (madeF n s f t tok form).N.length ≤ form.length ∧ (madeF n s f t tok form).S.length ≤ form.length ∧ (madeF n s f t tok form).F.length ≤ form.length := by
  unfold madeF
  have : ∀ (form : Oct) (x : PM), (form.foldl (madeOne n s f t tok) x).N.length ≤ x.N.length + form.length ∧ (form.foldl (madeOne n s f t tok) x).S.length ≤ x.S.length + form.length ∧ (form.foldl (madeOne n s f t tok) x).F.length ≤ x.F.length + form.length := by
    intro form
    induction form with
    | nil => intro x; simp
    | cons c r ih =>
      intro x
      have h1 := madeOne_len n s f t tok x c
      have h2 := ih (madeOne n s f t tok x c)
      simp only [List.foldl_cons, List.length_cons]
      omega
  simpa [noM] using this form noM
theorem madeF_take {n : List Nat} {s : List Oct} {f : Int} {t : List PF} {tok : Bool} {form : Oct} {i : Nat} (hi : i < form.length) : madeF n s f t tok (form.take (i + 1)) = madeOne n s f t tok (madeF n s f t tok (form.take i)) form[i] := by
  unfold madeF
  rw [List.take_succ_eq_append_getElem hi, List.foldl_append]
  rfl

theorem cut255 (v : Oct) : inB (if (255 : Int) < ((List.length v : Nat) : Int) then 255 else ((List.length v : Nat) : Int)) (List.length v) ∧ List.take (Int.toNat (if (255 : Int) < ((List.length v : Nat) : Int) then 255 else ((List.length v : Nat) : Int))) v = v.take 255 := by
  split
  · exact ⟨⟨by omega, by omega⟩, rfl⟩
  · refine ⟨⟨by omega, by omega⟩, ?_⟩
    rw [Int.toNat_natCast, List.take_length, List.take_of_length_le (by omega)]

theorem mask_u64 (n k : Nat) (hn : n < 18446744073709551616) (hk : k < 8) : bitsI .and .u64 (n : Int) (IntKind.u64.wrap ((shlI .u64 1 (IntKind.u64.wrap ((8 * k : Nat) : Int))) - 1)) = ((n % 256 ^ k : Nat) : Int) := by
  have w : IntKind.u64.wrap ((8 * k : Nat) : Int) = ((8 * k : Nat) : Int) := wrap_len (by omega)
  rw [w]
  have e : (256 : Nat) ^ k = 2 ^ (8 * k) := by rw [Nat.pow_mul]
  have p0 : 0 < 2 ^ (8 * k) := Nat.pow_pos (by omega)
  have p1 : 2 ^ (8 * k) < 18446744073709551616 := by
    have : 2 ^ (8 * k) ≤ 2 ^ 56 := Nat.pow_le_pow_right (by omega) (by omega)
    omega
  have s : shlI .u64 1 ((8 * k : Nat) : Int) = ((2 ^ (8 * k) : Nat) : Int) := by
    simp only [shlI, IntKind.bits, Int.toNat_natCast]
    rw [show min (8 * k) 64 = 8 * k by omega, Int.one_mul]
    have : (2 : Int) ^ (8 * k) = ((2 ^ (8 * k) : Nat) : Int) := by rw [Int.natCast_pow]; rfl
    rw [this, wrap_len p1]
  rw [s]
  have w2 : IntKind.u64.wrap (((2 ^ (8 * k) : Nat) : Int) - 1) = ((2 ^ (8 * k) - 1 : Nat) : Int) := by
    rw [show ((2 ^ (8 * k) : Nat) : Int) - 1 = ((2 ^ (8 * k) - 1 : Nat) : Int) by omega, wrap_len (by omega)]
  rw [w2, and_u64, Nat.mod_eq_of_lt (by omega), Nat.mod_eq_of_lt (by omega), Nat.and_two_pow_sub_one_eq_mod, e]

section
variable {K : KT} {L R : List Asr} {h : Heap}

theorem made_loop {r m : Addr} {a b : Int} {rc : List Value} {f : Oct} {sn ss t : SV} {n : List Nat} {s : List Oct} {tt : List PF} {B0 : Nat → Prop} {ff : Int} {tok : Bool} [Hn : In (Im 1 sn) L (nums n)] [Hs : In (Im 1 ss) L (strs s)] [Ht : In (Tb B0 t) L tt] (g : goodForm f) (hn : ∀ v ∈ n, v < 18446744073709551616)
    (hT : ∀ {L' : List Asr} {K : KT} {h : Heap}, St L' h → Tb B0 t tt ∈ L' → (∀ h', St L' h' → K (.bool tok) h') → CallsH P F.waybillref1_TableOk [.slice t.1 t.2.1 t.2.2] K h)
    (hK : ∀ h', St (MB m a b (madeF n s ff tt tok f) :: Bx r rc :: L) h' → waybilllaw4_Made.j1 K r m h') :
    ∀ (fuel i : Nat) (h : Heap), f.length - i < fuel → i ≤ f.length → St (MB m a b (madeF n s ff tt tok (f.take i)) :: Bx r rc :: L) h → waybilllaw4_Made.L2 K fuel sn.1 sn.2.1 sn.2.2 ss.1 ss.2.1 ss.2.2 ff t.1 t.2.1 t.2.2 r m f i h
  | 0, _, _, hf, _, _ => absurd hf (Nat.not_lt_zero _)
  | fuel + 1, i, h, hf, hi, S0 => by
    unfold waybilllaw4_Made.L2
    by_cases hlt : i < f.length
    · refine ifT (by simp; omega) ?_
      have next : ∀ h', St (MB m a b (madeOne n s ff tt tok (madeF n s ff tt tok (f.take i)) f[i]) :: Bx r rc :: L) h' → waybilllaw4_Made.j3 K (waybilllaw4_Made.L2 K fuel) sn.1 sn.2.1 sn.2.2 ss.1 ss.2.1 ss.2.2 ff t.1 t.2.1 t.2.2 r m f i h' := by
        intro h' S'
        unfold waybilllaw4_Made.j3
        simp only [bd]
        rw [wsucc (by have := g.2; omega)]
        rw [← madeF_take hlt] at S'
        exact made_loop g hn hT hK fuel (i + 1) h' (by omega) (by omega) S'
      have hml := madeF_len n s ff tt tok (f.take i)
      generalize madeF n s ff tt tok (f.take i) = x at *
      have hx : x.N.length < 16 ∧ x.S.length < 16 ∧ x.F.length < 16 := by have := g.2; simp only [List.length_take] at hml; omega
      clear hml
      obtain ⟨y, B, S⟩ := MB.op S0
      have hc := g.1 f[i] (List.getElem_mem _)
      have el : lb f i = (f[i].toNat : Int) := by simp [lb, List.getD, hlt]
      rw [el]
      generalize f[i] = c at *
      have e115 := eb8 c 115
      have e108 := eb8 c 108
      have e116 := eb8 c 116
      have e102 := eb8 c 102
      simp only [show ((102 : UInt8).toNat : Int) = 102 from rfl, show ((116 : UInt8).toNat : Int) = 116 from rfl, show ((115 : UInt8).toNat : Int) = 115 from rfl, show ((108 : UInt8).toNat : Int) = 108 from rfl] at e115 e108 e116 e102
      simp only [bd]
      rw [e115, e108]
      have lS : y.s.2.1 = x.S.length := by have := (S.ows 1 y.s).1; simp only [strs, List.length_map, Nat.mul_one] at this; omega
      have lN : y.n.2.1 = x.N.length := by have := (S.ows 1 y.n).1; simp only [nums, List.length_map, Nat.mul_one] at this; omega
      have lF : y.f.2.1 = x.F.length := by have := (S.ows 1 y.f).1; simp only [bools, List.length_map, Nat.mul_one] at this; omega
      have ln : sn.2.1 = n.length := by have := (S.isl 1 sn).1; simp only [nums, List.length_map, Nat.mul_one] at this; omega
      have ls : ss.2.1 = s.length := by have := (S.isl 1 ss).1; simp only [strs, List.length_map, Nat.mul_one] at this; omega
      refine ⟨by omega, by omega, ?_⟩
      unfold madeOne at next
      by_cases k1 : c = 115 ∨ c = 108
      · simp only [if_pos k1] at next
        have gt : waybilllaw4_Made.j4 K (waybilllaw4_Made.L2 K fuel) sn.1 sn.2.1 sn.2.2 ss.1 ss.2.1 ss.2.2 ff t.1 t.2.1 t.2.2 r m f i (c.toNat : Int) true h := by
          unfold waybilllaw4_Made.j4
          refine ifT rfl ?_
          simp only [bd, rdS (S.rc m 3 rfl)]
          have j5 : ∀ v : Oct, v = s.getD x.S.length [] → waybilllaw4_Made.j5 K (waybilllaw4_Made.L2 K fuel) sn.1 sn.2.1 sn.2.2 ss.1 ss.2.1 ss.2.2 ff t.1 t.2.1 t.2.2 r m f i v h := by
            intro v ev
            unfold waybilllaw4_Made.j5
            have cv := cut255 v
            rw [cv.2]
            simp only [cv.1, true_and, bd, rdS (S.rc m 3 rfl), rdS ((S.al [.string (mkS (v.take 255))] T.string).rc m 3 rfl), and_self]
            refine St.push1 sl_string S m 3 y.s rfl (by simp) (by omega) (by omega) fun p cc h2 S2 => next h2 (MB.cl ⟨y.n, (p, y.s.2.1 + 1, cc), y.f, y.t⟩ B ?_)
            have e : strs x.S ++ [.string (mkS (v.take 255))] = strs (x.S ++ [(s.getD x.S.length []).take 255]) := by simp [strs, ev]
            simp only [e, List.set_cons_succ, List.set_cons_zero] at S2
            exact S2.to
          by_cases hk : y.s.2.1 < ss.2.1
          · refine ifT (by simp; omega) ?_
            refine ixV (i := (y.s.2.1 : Int)) (n := x.S.length) (w := .string (mkS (s.getD x.S.length []))) (S.isl 1 ss) (by omega) (by simp only [strs, List.getElem?_map, List.getElem?_eq_getElem (show x.S.length < s.length by omega), Option.map_some, getD_lt _ _ (show x.S.length < s.length by omega)]) fun q eq cq => ?_
            simp only [rdT cq]
            exact j5 _ rfl
          · exact ifF (by simp; omega) (j5 [] (by rw [getD_ge _ _ (by omega)]))
        by_cases k2 : c = 115
        · exact ifT (by simp [k2]) (by rw [decide_eq_true k2]; exact gt)
        · exact ifF (by simp [k2]) (by rw [decide_eq_true (k1.resolve_left k2)]; exact gt)
      have n5 : ¬ c = 115 := fun e => k1 (.inl e)
      have n8 : ¬ c = 108 := fun e => k1 (.inr e)
      simp only [if_neg k1] at next
      refine ifF (by simp [n5]) ?_
      rw [decide_eq_false n8]
      unfold waybilllaw4_Made.j4
      refine ifF rfl ?_
      simp only [bd]
      rw [e116, e102]
      by_cases k3 : c = 116
      · simp only [if_pos k3] at next
        refine ifT (by simp [k3]) (hT S0 (List.mem_cons_of_mem _ (List.mem_cons_of_mem _ Ht.mem)) fun h1 S1 => ⟨_, rfl, fun et => ?_, fun et => ?_⟩)
        · rw [if_pos et] at next
          obtain ⟨y, B, S⟩ := MB.op S1
          have S2 := tbDup S (B := B0) (s := t)
          refine S2.put1 m 5 (by simp) rfl fun h2 S3 => next h2 (MB.cl ⟨y.n, y.s, y.f, t⟩ B0 ?_)
          simp only [List.set_cons_succ, List.set_cons_zero] at S3
          exact S3.to
        · subst et
          rw [if_neg (by decide)] at next
          exact next h1 S1
      simp only [if_neg k3] at next
      refine ifF (by simp [k3]) ?_
      by_cases k4 : c = 102
      · simp only [if_pos k4] at next
        refine ifT (by simp [k4]) ?_
        have ew : IntKind.u64.wrap ((y.f.2.1 : Nat) : Int) = ((y.f.2.1 : Nat) : Int) := wrap_len (by omega)
        simp only [rdS (S.rc m 4 rfl), ew]
        refine ⟨by omega, ?_⟩
        have eb : (bitsI .and .i64 (shrI .i64 ff ((y.f.2.1 : Nat) : Int)) 1 == 1) = gbit ff x.F.length := by
          rw [m1, shr_i64 _ _ (by omega), lF]; rfl
        rw [eb]
        refine St.push1 sl_bool S m 4 y.f rfl (by simp) (by omega) (by omega) fun p cc h2 S2 => next h2 (MB.cl ⟨y.n, y.s, (p, y.f.2.1 + 1, cc), y.t⟩ B ?_)
        have e : bools x.F ++ [.bool (gbit ff x.F.length)] = bools (x.F ++ [gbit ff x.F.length]) := by simp [bools]
        simp only [e, List.set_cons_succ, List.set_cons_zero] at S2
        exact S2.to
      simp only [if_neg k4] at next
      refine ifF (by simp [k4]) ?_
      have hd : 49 ≤ c.toNat ∧ c.toNat ≤ 56 := by
        rcases hc with e | e | e | e | e
        · exact absurd e k4
        · exact absurd e n5
        · exact absurd e n8
        · exact absurd e k3
        · exact e
      simp only [rdS (S.rc m 2 rfl)]
      have j7 : ∀ v : Nat, v = n.getD x.N.length 0 % 256 ^ (c.toNat - 48) → waybilllaw4_Made.j7 K (waybilllaw4_Made.L2 K fuel) sn.1 sn.2.1 sn.2.2 ss.1 ss.2.1 ss.2.2 ff t.1 t.2.1 t.2.2 r m f i (v : Int) h := by
        intro v ev
        unfold waybilllaw4_Made.j7
        simp only [rdS (S.rc m 2 rfl), bd]
        refine St.push1 sl_uint64 S m 2 y.n rfl (by simp) (by omega) (by omega) fun p cc h2 S2 => next h2 (MB.cl ⟨(p, y.n.2.1 + 1, cc), y.s, y.f, y.t⟩ B ?_)
        have e : nums x.N ++ [.int .u64 (v : Int)] = nums (x.N ++ [n.getD x.N.length 0 % 256 ^ (c.toNat - 48)]) := by simp [nums, ev]
        simp only [e, List.set_cons_succ, List.set_cons_zero] at S2
        exact S2.to
      have j6 : ∀ v : Nat, v = n.getD x.N.length 0 → v < 18446744073709551616 → waybilllaw4_Made.j6 K (waybilllaw4_Made.L2 K fuel) sn.1 sn.2.1 sn.2.2 ss.1 ss.2.1 ss.2.2 ff t.1 t.2.1 t.2.2 r m f i (v : Int) h := by
        intro v ev hv
        unfold waybilllaw4_Made.j6
        have el : lb f i = (c.toNat : Int) := el
        rw [el]
        refine ⟨by omega, by omega, ?_⟩
        by_cases h8 : c.toNat = 56
        · refine ifF (by simp [h8]) (j7 v ?_)
          rw [← ev, h8, Nat.mod_eq_of_lt]
          exact hv
        · refine ifT (by simp; omega) ⟨by omega, by omega, ?_⟩
          have w1 : IntKind.u8.wrap ((8 : Int) * (IntKind.u8.wrap ((c.toNat : Int) - 48))) = ((8 * (c.toNat - 48) : Nat) : Int) := by
            rw [IntKind.wrap_u8', IntKind.wrap_u8']; omega
          rw [w1]
          refine ⟨by rw [wrap_len (by omega)]; omega, ?_⟩
          simp only [bd]
          rw [mask_u64 v _ hv (by omega)]
          exact j7 _ (by rw [ev])
      by_cases hk : y.n.2.1 < sn.2.1
      · refine ifT (by simp; omega) ?_
        have hv : n.getD x.N.length 0 = n[x.N.length]'(by omega) := getD_lt _ _ (by omega)
        refine ixV (i := (y.n.2.1 : Int)) (n := x.N.length) (w := .int .u64 ((n.getD x.N.length 0 : Nat) : Int)) (S.isl 1 sn) (by omega) (by simp only [nums, List.getElem?_map, List.getElem?_eq_getElem (show x.N.length < n.length by omega), Option.map_some, hv]) fun q eq cq => ?_
        simp only [rdN cq]
        exact j6 _ rfl (by rw [hv]; exact hn _ (List.getElem_mem _))
      · exact ifF (by simp; omega) (j6 0 (by rw [getD_ge _ _ (by omega)]) (by omega))
    · refine ifF (by simp; omega) (hK h ?_)
      rw [List.take_of_length_le (by omega)] at S0
      exact S0

def pair2 (x : (Int × Int) × Oct) : List Value := [.int .i64 x.1.1, .int .i64 x.1.2]

theorem pairs_at (i : Nat) (hi : i < 49) : ((knownL.flatMap pair2).drop (i * 2)).take 2 = pair2 (knownL.getD i ((0, 0), [])) := by
  have : ∀ i : Fin 49, ((knownL.flatMap pair2).drop (i.1 * 2)).take 2 = pair2 (knownL.getD i.1 ((0, 0), [])) := by
    intro i
    have e1 : ∀ (l : List ((Int × Int) × Oct)) (i : Nat) (hi : i < l.length), ((l.flatMap pair2).drop (i * 2)).take 2 = pair2 l[i] := by
      intro l
      induction l with
      | nil => intro i hi; cases hi
      | cons x r ih =>
        intro i hi
        cases i with
        | zero => rfl
        | succ i =>
          rw [show (i + 1) * 2 = i * 2 + 1 + 1 by omega]
          exact ih i (by simpa using hi)
    have hl : i.1 < knownL.length := i.2
    rw [e1 _ _ hl, getD_lt _ _ hl]
  exact this ⟨i, hi⟩

theorem madeS {which ff : Int} {sn ss t : SV} {n : List Nat} {s : List Oct} {tt : List PF} {B0 : Nat → Prop} {tok : Bool} (S : St L h) [Hn : In (Im 1 sn) L (nums n)] [Hs : In (Im 1 ss) L (strs s)] [Ht : In (Tb B0 t) L tt] (hn : ∀ v ∈ n, v < 18446744073709551616)
    (hT : ∀ {L' : List Asr} {K : KT} {h : Heap}, St L' h → Tb B0 t tt ∈ L' → (∀ h', St L' h' → K (.bool tok) h') → CallsH P F.waybillref1_TableOk [.slice t.1 t.2.1 t.2.2] K h)
    (hK : ∀ y B h', St (Ow 1 y.n (nums (madeF n s ff tt tok (madeC which).2).N) :: Ow 1 y.s (strs (madeF n s ff tt tok (madeC which).2).S) :: Ow 1 y.f (bools (madeF n s ff tt tok (madeC which).2).F) :: Tb B y.t (madeF n s ff tt tok (madeC which).2).T :: L) h' →
      K (.agg (List.toArray (mcells (madeC which).1.1 (madeC which).1.2 y))) h') : CallsH P F.waybilllaw4_Made [.int .i64 which, .slice sn.1 sn.2.1 sn.2.2, .slice ss.1 ss.2.1 ss.2.2, .int .i64 ff, .slice t.1 t.2.1 t.2.2] K h := by
  refine waybilllaw4_Made.ok ?_
  unfold waybilllaw4_Made.p0
  simp only [bd]
  have S1 := S.al (mcells 0 0 mnil) T.api_Method
  refine ⟨knownL.flatMap pair2, by unfold bldS; kernel_rfl, ?_⟩
  have S2 := S1.al (knownL.flatMap pair2) T.t2_int
  have e0 : Int.tmod (bitsI .and .i64 which 65535) (49 : Int) = (((which % 65536).toNat % 49 : Nat) : Int) := by
    rw [m65535, Int.tmod_eq_emod_of_nonneg (by omega)]; omega
  rw [show (((49 : Nat) : Int)) = 49 from rfl, e0]
  have hi : (which % 65536).toNat % 49 < 49 := by omega
  have ec : madeC which = knownL.getD ((which % 65536).toNat % 49) ((0, 0), []) := rfl
  generalize (which % 65536).toNat % 49 = i at *
  refine ⟨by decide, _, rfl, by omega, by omega, ?_⟩
  generalize top h = r at *
  generalize al h _ _ = h1 at *
  rw [show Int.toNat ((i : Nat) : Int) * 2 = i * 2 from by rw [Int.toNat_natCast]]
  refine S2.rdP (i * 2) (n := 2) (by rw [show (knownL.flatMap pair2).length = 98 from rfl]; omega) ?_
  rw [pairs_at i hi, ← ec]
  generalize al h1 _ _ = h3 at *
  have S3 := S2.al [.int .i64 0, .int .i64 0] T.t2_int
  refine ⟨rfl, S3.putA (top h3) rfl (by intro w hw; simp [pair2] at hw; rcases hw with rfl | rfl <;> rfl) fun h8 S4 => ?_⟩
  generalize top h3 = q at *
  unfold pair2 at S4
  simp only [show Int.toNat 0 * 1 = 0 from rfl, show Int.toNat 1 * 1 = 1 from rfl, rdN (S4.rc q 0 rfl), rdN (S4.rc q 1 rfl)]
  refine ⟨by decide, by decide, by decide, by decide, rfl, ?_⟩
  have S5 := S4.al (mcells 0 0 mnil) T.api_Method
  have eh : al h8 #[.int .i64 0, .int .i64 0, .slice none 0 0, .slice none 0 0, .slice none 0 0, .slice none 0 0] T.api_Method = al h8 (mcells 0 0 mnil).toArray T.api_Method := rfl
  rw [eh]
  refine S5.putA (top h8) (ws := mcells (madeC which).1.1 (madeC which).1.2 mnil) rfl (by intro w hw; simp [mcells] at hw; rcases hw with rfl | rfl | rfl | rfl | rfl | rfl <;> rfl) fun h12 S6 => ?_
  generalize top h8 = m at *
  simp only [rdN (S6.rc q 0 rfl), rdN (S6.rc q 1 rfl)]
  refine ⟨by decide, by decide, by decide, by decide, refForm.spec ⟨_, _, rfl, ?_⟩⟩
  rw [madeC_form]
  simp only [Option.getD_some]
  have S7 := ((((tbNil 0 S6).owNil 1).owNil 1).owNil 1)
  have S8 : St (MB m (madeC which).1.1 (madeC which).1.2 noM :: Bx r (mcells 0 0 mnil) :: L) h12 := MB.cl mnil (fun _ => False) (show St (Bx m (mcells (madeC which).1.1 (madeC which).1.2 mnil) :: Ow 1 (none, 0, 0) [] :: Ow 1 (none, 0, 0) [] :: Ow 1 (none, 0, 0) [] :: Tb (fun _ => False) (none, 0, 0) [] :: Bx r (mcells 0 0 mnil) :: L) h12 from S7.to)
  refine ⟨_, made_loop (madeC_good which) hn hT (fun h' S' => ?_) _ 0 h12 (Nat.lt_succ_self _) (Nat.zero_le _) S8⟩
  obtain ⟨y, B, S9⟩ := MB.op S'
  unfold waybilllaw4_Made.j1
  simp only [rdC' (S9.rall m 6 rfl)]
  refine ⟨rfl, S9.putA r rfl (by intro w hw; simp [mcells] at hw; rcases hw with rfl | rfl | rfl | rfl | rfl | rfl <;> rfl) fun h20 S10 => ?_⟩
  simp only [rdC' (S10.rall r 6 rfl)]
  exact hK y B h20 S10.to
end
end Go.Proofs.Ytpfnfmlibpoleaa.Pr
