/- Writing a method: numbers, texts, flags, the table, the whole. -/
import Derived.Test.YtpfnfmlibpoleaaMethR
set_option linter.unusedVariables false
set_option linter.unusedSimpArgs false
namespace Go.Proofs.Ytpfnfmlibpoleaa.Pr
open Go Go.Lift Go.Proofs

def orLast (o : Oct) (v : UInt8) : Oct := o.set (o.length - 1) (o.getD (o.length - 1) 0 ||| v)
def bitO (i : Nat) : UInt8 := UInt8.ofNat (2 ^ i)
def packGo : List Bool → Nat → Oct → Oct
  | [], _, o => o
  | b :: r, i, o => packGo r (i + 1) (if b then orLast (if i % 8 = 0 then o ++ [0] else o) (bitO (i % 8)) else (if i % 8 = 0 then o ++ [0] else o))

/-- What one letter writes; none: it may not be. -/
def oneW (c : UInt8) (z : Oct × PM) : Option (Oct × PM) :=
  if c = 115 then match z.2.S with
    | [] => none
    | s :: r => if s.length > 255 then none else some (z.1 ++ octsN 1 s.length ++ s, { z.2 with S := r })
  else if c = 108 then match z.2.S with
    | [] => none
    | s :: r => some (z.1 ++ octsN 4 s.length ++ s, { z.2 with S := r })
  else if c = 116 then match tableP z.2.T with
    | none => none
    | some b => some (z.1 ++ octsN 4 b.length ++ b, { z.2 with T := [] })
  else match z.2.N with
    | [] => none
    | v :: r => if c.toNat - 48 = 8 ∨ v / 256 ^ (c.toNat - 48) = 0 then some (z.1 ++ octsN (c.toNat - 48) v, { z.2 with N := r }) else none

def packW (n : Nat) (z : Oct × PM) : Option (Oct × PM) := if z.2.F.length < n then none else some (packGo (z.2.F.take n) 0 z.1, { z.2 with F := z.2.F.drop n })

def formW : Nat → Oct → Oct × PM → Option (Oct × PM)
  | 0, _, _ => none
  | k + 1, f, z => if f = [] then some z else if 0 < flagsP f then (packW (flagsP f) z).bind (formW k (f.drop (flagsP f))) else (oneW (f.getD 0 0) z).bind (formW k (f.drop 1))

/-- A method's octets; none: it may not be. -/
def methW (a b : Int) (x : PM) : Option Oct := match formP (a, b) with
  | none => none
  | some f => match formW (f.length + 1) f (octsN 2 (nat64 a) ++ octsN 2 (nat64 b), x) with
    | none => none
    | some z => if z.2.N = [] ∧ z.2.S = [] ∧ z.2.F = [] ∧ z.2.T = [] then some z.1 else none

structure smallM (x : PM) : Prop where
  n : x.N.length < 1000000
  n64 : ∀ v ∈ x.N, v < 18446744073709551616
  s : x.S.length < 1000000
  sl : ∀ s ∈ x.S, s.length < 1073741824
  f : x.F.length < 1000000
  t : smallP 8 x.T
  tl : x.T.length < 1000000

theorem or_u8 (a b : UInt8) : bitsI .or .u8 (a.toNat : Int) (b.toNat : Int) = (((a ||| b).toNat : Nat) : Int) := by
  have e : bitsI .or .u8 (a.toNat : Int) (b.toNat : Int) = IntKind.u8.wrap (((BitVec.ofInt 8 (a.toNat : Int) ||| BitVec.ofInt 8 (b.toNat : Int) : BitVec 8).toNat : Nat) : Int) := rfl
  have o1 : BitVec.ofInt 8 (a.toNat : Int) = BitVec.ofNat 8 a.toNat := BitVec.ofInt_natCast ..
  have o2 : BitVec.ofInt 8 (b.toNat : Int) = BitVec.ofNat 8 b.toNat := BitVec.ofInt_natCast ..
  rw [e, o1, o2, IntKind.wrap_u8', BitVec.toNat_or, BitVec.toNat_ofNat, BitVec.toNat_ofNat, UInt8.toNat_or]
  have h1 := a.toNat_lt
  have h2 := b.toNat_lt
  have h3 : a.toNat ||| b.toNat < 2 ^ 8 := Nat.or_lt_two_pow (by omega) (by omega)
  rw [Nat.mod_eq_of_lt (by omega), Nat.mod_eq_of_lt (by omega)]
  omega
theorem shl_u8 {i : Nat} (hi : i < 8) : shlI .u8 1 ((i : Nat) : Int) = (((bitO i).toNat : Nat) : Int) := by
  have : ∀ i : Nat, i < 8 → shlI .u8 1 ((i : Nat) : Int) = (((bitO i).toNat : Nat) : Int) := by decide
  exact this i hi

structure WV where
  b : SV
  y : MV
abbrev wcells (a b : Int) (z : WV) : List Value := [z.b.v, .int .i64 a, .int .i64 b, z.y.n.v, z.y.s.v, z.y.f.v, z.y.t.v]

def WB (w : Addr) (z : Oct × PM) : Asr := ex fun v : WV => ex fun ab : Int × Int => ex fun B : Nat → Prop => stars [Bx w (wcells ab.1 ab.2 v), Ow 1 v.b (u8s z.1), Im 1 v.y.n (nums z.2.N), Im 1 v.y.s (strs z.2.S), Im 1 v.y.f (bools z.2.F), Tb B v.y.t z.2.T]

section
variable {K : KT} {L R : List Asr} {h : Heap}
theorem WB.op {w : Addr} {z : Oct × PM} (S : St (WB w z :: L) h) : ∃ v a b B, St (Bx w (wcells a b v) :: Ow 1 v.b (u8s z.1) :: Im 1 v.y.n (nums z.2.N) :: Im 1 v.y.s (strs z.2.S) :: Im 1 v.y.f (bools z.2.F) :: Tb B v.y.t z.2.T :: L) h := by
  obtain ⟨v, S⟩ := S.ex
  obtain ⟨ab, S⟩ := S.ex
  obtain ⟨B, S⟩ := S.ex
  exact ⟨v, ab.1, ab.2, B, St.open S⟩
theorem WB.cl {w : Addr} {z : Oct × PM} (v : WV) (a b : Int) (B : Nat → Prop) (S : St (Bx w (wcells a b v) :: Ow 1 v.b (u8s z.1) :: Im 1 v.y.n (nums z.2.N) :: Im 1 v.y.s (strs z.2.S) :: Im 1 v.y.f (bools z.2.F) :: Tb B v.y.t z.2.T :: L) h) : St (WB w z :: L) h :=
  St.ex' v (St.ex' (a, b) (St.ex' B (St.close S)))

/-- What a writer's function owes: on with what is written, or it is refused. -/
def WK (K : KT) (L : List Asr) (w : Addr) (r : Option (Oct × PM)) : Prop := ∀ h', (∀ z, r = some z → St (WB w z :: L) h' → K (.bool true) h') ∧ (r = none → (∃ z, St (WB w z :: L) h') → K (.bool false) h')

theorem numberS {w : Addr} {z : Oct × PM} {c : UInt8} (S0 : St (WB w z :: L) h) (hc : 49 ≤ c.toNat ∧ c.toNat ≤ 56) (h64 : ∀ v ∈ z.2.N, v < 18446744073709551616) (hb : z.1.length < 1099511627776)
    (hK : WK K L w (match z.2.N with
    | [] => none
    | v :: r => if c.toNat - 48 = 8 ∨ v / 256 ^ (c.toNat - 48) = 0 then some (z.1 ++ octsN (c.toNat - 48) v, { z.2 with N := r }) else none)) :
    CallsH P F.meth_writer_number [.pointer (some w), .int .i64 ((c.toNat - 48 : Nat) : Int)] K h := by
  obtain ⟨v, a, b, B, S⟩ := WB.op S0
  obtain ⟨out, N, Ss, Fs, Ts⟩ := z
  simp only at S h64 hb hK
  refine meth_writer_number.ok ?_
  unfold meth_writer_number.p0
  have sn := S.isl 1 v.y.n
  have ln := sn.1
  simp only [nums, List.length_map, Nat.mul_one] at ln
  simp only [bd, someE, rdS (S.rcc w 1 2 rfl)]
  generalize hn : c.toNat - 48 = n at *
  have hn8 : 1 ≤ n ∧ n ≤ 8 := by omega
  cases N with
  | nil =>
    refine ifT (by rw [← ln]; rfl) ((hK h).2 rfl ⟨_, S0⟩)
  | cons x r =>
    have hl : 0 < v.y.n.2.1 := by rw [← ln]; simp
    refine ifF (by simp; omega) ?_
    refine ixV sn (i := 0) (n := 0) rfl rfl fun q eq cq => ?_
    simp only [rdN cq, show Int.toNat 1 = 1 from rfl]
    have S1 := S.idrop v.y.n (n := 1) (by omega)
    refine ⟨⟨by omega, by omega⟩, S1.put2 w 1 2 (by simp) rfl fun h1 S2 => ?_⟩
    simp only [List.set_cons_succ, List.set_cons_zero] at S2
    simp only [rdS (S2.rc w 0 rfl)]
    refine intS (s := v.b) S2 (S2.osl 1 v.b) (by omega) (by omega) (by omega) fun p l c h2 S3 => ⟨_, _, _, rfl, S3.put1 w 0 (by simp) rfl fun h3 S4 => ?_⟩
    simp only [List.set_cons_succ, List.set_cons_zero] at S4
    have ed : (nums (x :: r)).drop 1 = nums r := rfl
    rw [ed] at S4
    have S5 : St (Bx w (wcells a b ⟨(p, l, c), (slA v.y.n.1 1 v.y.n.2.2 1, v.y.n.2.1 - 1, v.y.n.2.2 - 1), v.y.s, v.y.f, v.y.t⟩) :: Ow 1 (p, l, c) (u8s (out ++ octsN n x)) :: Im 1 (slA v.y.n.1 1 v.y.n.2.2 1, v.y.n.2.1 - 1, v.y.n.2.2 - 1) (nums r) :: Im 1 v.y.s (strs Ss) :: Im 1 v.y.f (bools Fs) :: Tb B v.y.t Ts :: L) h3 := S4.to
    have S6 : St (WB w (out ++ octsN n x, ⟨r, Ss, Fs, Ts⟩) :: L) h3 := WB.cl _ a b B S5
    simp only at hK
    by_cases e8 : n = 8
    · rw [if_pos (.inl e8)] at hK
      exact ⟨fun e => absurd e (by simp [e8]), fun _ => (hK h3).1 _ rfl S6⟩
    · refine ifF' (by simp; omega) ⟨by omega, ?_⟩
      have es : IntKind.u64.wrap (shlI .i64 (n : Int) 3) = ((8 * n : Nat) : Int) := shift_amount (by omega)
      rw [es]
      refine ⟨by omega, ?_⟩
      have ex := h64 x (List.mem_cons_self ..)
      have eq0 : (shrI .u64 (x : Int) ((8 * n : Nat) : Int) == 0) = decide (x / 256 ^ n = 0) := by
        simp only [shrI, IntKind.bits, Int.toNat_natCast]
        rw [show min (8 * n) 64 = 8 * n by omega]
        have hp : (2 : Int) ^ (8 * n) = ((256 ^ n : Nat) : Int) := by
          have : (256 : Nat) ^ n = 2 ^ (8 * n) := by rw [Nat.pow_mul]
          rw [this, Int.natCast_pow]; rfl
        rw [hp, Int.fdiv_eq_ediv_of_nonneg _ (Int.natCast_nonneg _), ← Int.natCast_ediv, Bool.eq_iff_iff, beq_iff_eq, decide_eq_true_eq]
        omega
      rw [eq0]
      by_cases e0 : x / 256 ^ n = 0
      · rw [if_pos (.inr e0)] at hK
        rw [decide_eq_true e0]
        exact (hK h3).1 _ rfl S6
      · rw [if_neg (by simp only [e8, e0, or_self, not_false_iff])] at hK
        rw [decide_eq_false e0]
        exact (hK h3).2 rfl ⟨_, S6⟩

theorem textS {w : Addr} {z : Oct × PM} {long : Bool} (S0 : St (WB w z :: L) h) (hs : ∀ s ∈ z.2.S, s.length < 1073741824) (hb : z.1.length < 1099511627776)
    (hK : WK K L w (match z.2.S with
    | [] => none
    | s :: r => if long then some (z.1 ++ octsN 4 s.length ++ s, { z.2 with S := r }) else if s.length > 255 then none else some (z.1 ++ octsN 1 s.length ++ s, { z.2 with S := r }))) :
    CallsH P F.meth_writer_text [.pointer (some w), .bool long] K h := by
  obtain ⟨v, a, b, B, S⟩ := WB.op S0
  obtain ⟨out, N, Ss, Fs, Ts⟩ := z
  simp only at S hs hb hK
  refine meth_writer_text.ok ?_
  unfold meth_writer_text.p0
  have sn := S.isl 1 v.y.s
  have ln := sn.1
  simp only [strs, List.length_map, Nat.mul_one] at ln
  simp only [bd, someE, rdS (S.rcc w 1 3 rfl)]
  cases Ss with
  | nil =>
    refine ifT (by rw [← ln]; rfl) ((hK h).2 rfl ⟨_, S0⟩)
  | cons x r =>
    have hl : 0 < v.y.s.2.1 := by rw [← ln]; simp
    have hx := hs x (List.mem_cons_self ..)
    refine ifF (by simp; omega) ?_
    refine ixV sn (i := 0) (n := 0) rfl rfl fun q eq cq => ?_
    simp only [rdT cq, show Int.toNat 1 = 1 from rfl]
    have S1 := S.idrop v.y.s (n := 1) (by omega)
    refine ⟨⟨by omega, by omega⟩, S1.put2 w 1 3 (by simp) rfl fun h1 S2 => ?_⟩
    simp only [List.set_cons_succ, List.set_cons_zero] at S2
    have ed : (strs (x :: r)).drop 1 = strs r := rfl
    rw [ed] at S2
    simp only [rdS (S2.rc w 0 rfl)]
    have fin : ∀ (bs : Oct) (p : OA) (l c : Nat) (h3 : Heap), St (Bx w [.slice p l c, .int .i64 a, .int .i64 b, v.y.n.v, .slice (slA v.y.s.1 1 v.y.s.2.2 1) (v.y.s.2.1 - 1) (v.y.s.2.2 - 1), v.y.f.v, v.y.t.v] :: Ow 1 (p, l, c) (u8s bs) ::
        Im 1 (slA v.y.s.1 1 v.y.s.2.2 1, v.y.s.2.1 - 1, v.y.s.2.2 - 1) (strs r) :: Im 1 v.y.n (nums N) :: Im 1 v.y.f (bools Fs) :: Tb B v.y.t Ts :: L) h3 → St (WB w (bs, ⟨N, r, Fs, Ts⟩) :: L) h3 := by
      intro bs p l c h3 S4
      have S5 : St (Bx w (wcells a b ⟨(p, l, c), v.y.n, (slA v.y.s.1 1 v.y.s.2.2 1, v.y.s.2.1 - 1, v.y.s.2.2 - 1), v.y.f, v.y.t⟩) :: Ow 1 (p, l, c) (u8s bs) :: Im 1 v.y.n (nums N) :: Im 1 (slA v.y.s.1 1 v.y.s.2.2 1, v.y.s.2.1 - 1, v.y.s.2.2 - 1) (strs r) :: Im 1 v.y.f (bools Fs) :: Tb B v.y.t Ts :: L) h3 := S4.to
      exact WB.cl _ a b B S5
    cases long with
    | true =>
      refine ifT rfl ?_
      refine St.bytes u_str u_sl u_u8 S2 fun cc h2 S3 => ⟨_, _, _, rfl, ?_⟩
      refine longS (s := v.b) (t := (some (top h1), x.length, cc)) S3 (S3.osl 1 v.b) S3.sl hb (by omega) fun p l c h3 S4 => ⟨_, _, _, rfl, S4.put1 w 0 (by simp) rfl fun h4 S5 => ?_⟩
      simp only [List.set_cons_succ, List.set_cons_zero] at S5
      exact (hK h4).1 _ rfl (fin _ p l c h4 S5.to)
    | false =>
      refine ifF rfl ?_
      refine shortS (s := v.b) S2 (S2.osl 1 v.b) hb fun p l c h3 S4 => ⟨_, _, _, _, rfl, S4.put1 w 0 (by simp) rfl fun h4 S5 => ?_⟩
      simp only [List.set_cons_succ, List.set_cons_zero] at S5
      simp only [Bool.false_eq_true, if_false] at hK
      by_cases hg : x.length > 255
      · rw [if_pos hg] at hK
        rw [decide_eq_false (by omega)]
        exact (hK h4).2 rfl ⟨_, fin (if x.length > 255 then out else out ++ octsN 1 x.length ++ x) p l c h4 S5.to⟩
      · rw [if_neg hg] at hK S5
        rw [decide_eq_true (by omega)]
        exact (hK h4).1 _ rfl (fin _ p l c h4 S5.to)

theorem wtableS {w : Addr} {z : Oct × PM} (S0 : St (WB w z :: L) h) (ht : smallP 8 z.2.T) (hb : z.1.length < 1099511627776)
    (hK : WK K L w (match tableP z.2.T with
    | none => none
    | some b => some (z.1 ++ octsN 4 b.length ++ b, { z.2 with T := [] }))) :
    CallsH P F.meth_writer_table [.pointer (some w)] K h := by
  obtain ⟨v, a, b, B, S⟩ := WB.op S0
  obtain ⟨out, N, Ss, Fs, Ts⟩ := z
  simp only at S ht hb hK
  refine meth_writer_table.ok ?_
  unfold meth_writer_table.p0
  simp only [bd, someE, rdS (S.rcc w 1 5 rfl)]
  have hl := rowsP_lenD 8 Ts
  refine tappS (B := B) (t := v.y.t) (fs := Ts) (s := (none, 0, 0)) (bs := []) (S.imNil 1 0) (List.mem_cons_self ..) ht (by simp) fun p l c h1 S1 => ⟨_, _, _, _, rfl, ?_⟩
  simp only [rdS (S1.rc w 0 rfl)]
  refine longS (s := v.b) (t := (p, l, c)) S1 (S1.osl 1 v.b) S1.sl hb (by simp only [List.nil_append, tableP]; omega) fun p2 l2 c2 h2 S2 => ⟨_, _, _, rfl, S2.put1 w 0 (by simp) rfl fun h3 S3 => S3.put2 w 1 5 (by simp) rfl fun h4 S4 => ?_⟩
  simp only [List.set_cons_succ, List.set_cons_zero, List.nil_append] at S4
  have S5 : St (Bx w (wcells a b ⟨(p2, l2, c2), v.y.n, v.y.s, v.y.f, (none, 0, 0)⟩) :: Ow 1 (p2, l2, c2) (u8s (out ++ octsN 4 ((tableP Ts).getD []).length ++ (tableP Ts).getD [])) :: Im 1 v.y.n (nums N) :: Im 1 v.y.s (strs Ss) :: Im 1 v.y.f (bools Fs) :: Tb (fun _ => False) (none, 0, 0) [] :: L) h4 := (tbNil 0 S4).to
  have S6 : St (WB w (out ++ octsN 4 ((tableP Ts).getD []).length ++ (tableP Ts).getD [], ⟨N, Ss, Fs, []⟩) :: L) h4 := WB.cl _ a b _ S5
  cases e : tableP Ts with
  | none => rw [e] at hK; exact (hK h4).2 rfl ⟨_, S6⟩
  | some bs => rw [e] at hK S6; exact (hK h4).1 _ rfl S6

theorem orLast_len (o : Oct) (v : UInt8) : (orLast o v).length = o.length := by simp [orLast]
theorem packGo_len : ∀ (l : List Bool) (i : Nat) (o : Oct), (packGo l i o).length ≤ o.length + l.length
  | [], _, o => by simp [packGo]
  | b :: r, i, o => by
    unfold packGo
    have := packGo_len r (i + 1) (if b then orLast (if i % 8 = 0 then o ++ [0] else o) (bitO (i % 8)) else (if i % 8 = 0 then o ++ [0] else o))
    have h2 : (if b then orLast (if i % 8 = 0 then o ++ [0] else o) (bitO (i % 8)) else (if i % 8 = 0 then o ++ [0] else o)).length ≤ o.length + 1 := by
      split <;> split <;> simp [orLast_len]
    simp only [List.length_cons]
    omega

/-- The writer's octets grow and turn; the rest stays. -/
def WBo (w : Addr) (v : MV) (a b : Int) (o : Oct) : Asr := ex fun s : SV => sep (Bx w (wcells a b ⟨s, v⟩)) (Ow 1 s (u8s o))
theorem WBo.op {w : Addr} {v : MV} {a b : Int} {o : Oct} (S : St (WBo w v a b o :: L) h) : ∃ s, St (Bx w (wcells a b ⟨s, v⟩) :: Ow 1 s (u8s o) :: L) h := by
  obtain ⟨s, S⟩ := S.ex
  exact ⟨s, S.split⟩
theorem WBo.cl {w : Addr} {v : MV} {a b : Int} {o : Oct} (s : SV) (S : St (Bx w (wcells a b ⟨s, v⟩) :: Ow 1 s (u8s o) :: L) h) : St (WBo w v a b o :: L) h := St.ex' s S.join

theorem pack_loop {w : Addr} {v : MV} {a b : Int} {n : Nat} {fl : List Bool} {t : SV} {res : Oct} (hn : fl.length = n) (hn2 : n < 1000000) (hK : ∀ h', St (WBo w v a b res :: L) h' → meth_writer_pack.j1 K (some w) n h') [ht : In (Im 1 t) L (bools fl)] :
    ∀ (fuel i : Nat) (o : Oct) (h : Heap), n - i < fuel → i ≤ n → o.length < 1099511627776 + i → (i % 8 ≠ 0 → o ≠ []) → packGo (fl.drop i) i o = res → St (WBo w v a b o :: L) h →
      meth_writer_pack.L2 K fuel (some w) n t.1 t.2.1 t.2.2 ((t.2.1 : Nat) : Int) i h
  | 0, _, _, _, hf, _, _, _, _, _ => absurd hf (Nat.not_lt_zero _)
  | fuel + 1, i, o, h, hf, hi, ho, hne, hg, S => by
    unfold meth_writer_pack.L2
    have st := S.isl 1 t
    have lt := st.1
    simp only [bools, List.length_map, Nat.mul_one] at lt
    by_cases hlt : i < n
    · have hif : i < fl.length := by omega
      refine ifT (by simp; omega) ?_
      refine ixV st (w := .bool fl[i]) rfl (by simp [bools, hif]) fun q eq cq => ?_
      simp only [rdB cq]
      refine ⟨by decide, ?_⟩
      rw [tmod8]
      have hdrop : fl.drop i = fl[i] :: fl.drop (i + 1) := List.drop_eq_getElem_cons hif
      rw [hdrop] at hg
      unfold packGo at hg
      have fin : ∀ (o' : Oct) (h' : Heap), o' ≠ [] → o'.length < 1099511627776 + (i + 1) → o' = (if i % 8 = 0 then o ++ [0] else o) → St (WBo w v a b o' :: L) h' →
          meth_writer_pack.j4 K (meth_writer_pack.L2 K fuel) (some w) n i fl[i] t.1 t.2.1 t.2.2 ((t.2.1 : Nat) : Int) i h' := by
        intro o' h' hne' ho' e' S'
        rw [← e'] at hg
        unfold meth_writer_pack.j4
        have next : ∀ (o2 : Oct) (h2 : Heap), o2.length = o'.length → (if fl[i] then orLast o' (bitO (i % 8)) else o') = o2 → St (WBo w v a b o2 :: L) h2 → meth_writer_pack.j3 K (meth_writer_pack.L2 K fuel) (some w) n t.1 t.2.1 t.2.2 ((t.2.1 : Nat) : Int) i h2 := by
          intro o2 h2 hl2 e2 S2
          rw [e2] at hg
          unfold meth_writer_pack.j3
          rw [wsucc (by omega)]
          exact pack_loop hn hn2 hK fuel (i + 1) o2 h2 (by omega) (by omega) (by omega) (fun _ e => by subst e; simp at hl2; exact hne' (List.eq_nil_of_length_eq_zero hl2.symm)) hg S2
        cases hb : fl[i] with
        | false => exact ifF rfl (next o' h' rfl (by rw [hb]; rfl) S')
        | true =>
          refine ifT rfl ?_
          obtain ⟨s, S1⟩ := WBo.op S'
          have e8 : IntKind.u64.wrap ((i % 8 : Nat) : Int) = ((i % 8 : Nat) : Int) := wrap_len (by omega)
          have hpos := List.length_pos_iff.2 hne'
          have ls := (S1.ows 1 s).1
          simp only [u8s_length, Nat.mul_one] at ls
          have el : IntKind.i64.wrap (((s.2.1 : Nat) : Int) - 1) = ((o'.length - 1 : Nat) : Int) := by rw [wrapI (by omega) (by omega)]; omega
          simp only [someE, tmod8, e8, rdS (S1.rc w 0 rfl), el]
          refine ⟨by decide, by omega, ?_⟩
          have hol : o'.length - 1 < o'.length := by omega
          refine ixV (S1.osl 1 s) (w := .int .u8 (o'[o'.length - 1].toNat : Int)) rfl (by simp [u8s, hol]) fun q2 eq2 cq2 => ?_
          simp only [rdN cq2]
          rw [shl_u8 (by omega), or_u8]
          refine (S1.get (Ow 1 s)).owSet (n := o'.length - 1) rfl (by rw [u8s_length]; exact hol) rfl fun h2 S2 => ?_
          have es : (u8s o').set (o'.length - 1) (.int .u8 (((o'[o'.length - 1] ||| bitO (i % 8)).toNat : Nat) : Int)) = u8s (orLast o' (bitO (i % 8))) := by
            simp [u8s, orLast, List.map_set, hol]
          rw [es] at S2
          exact next _ h2 (orLast_len _ _) (by rw [hb]; rfl) (WBo.cl s S2.to)
      by_cases h8 : i % 8 = 0
      · refine ifT (by simp; omega) ?_
        obtain ⟨s, S1⟩ := WBo.op S
        simp only [someE, rdS (S1.rc w 0 rfl), bd]
        have ls := (S1.ows 1 s).1
        simp only [u8s_length, Nat.mul_one] at ls
        refine St.push1 sl_uint8 S1 w 0 s (w := .int .u8 0) rfl (by simp) (by omega) (by omega) fun p c h2 S2 => ?_
        simp only [List.set_cons_zero] at S2
        have e : u8s o ++ [.int .u8 0] = u8s (o ++ [0]) := by simp [u8s]
        rw [e] at S2
        exact fin (o ++ [0]) h2 (by simp) (by simp; omega) (by rw [if_pos h8]) (WBo.cl (p, s.2.1 + 1, c) S2)
      · refine ifF (by simp; omega) ?_
        exact fin o h (hne h8) (by omega) (by rw [if_neg h8]) S
    · refine ifF (by simp; omega) ?_
      rw [List.drop_eq_nil_of_le (by omega), packGo] at hg
      subst hg
      exact hK h S

theorem packS {w : Addr} {z : Oct × PM} {n : Nat} (S0 : St (WB w z :: L) h) (hn : n < 1000000) (hb : z.1.length < 1099511627776) (hK : WK K L w (packW n z)) :
    CallsH P F.meth_writer_pack [.pointer (some w), .int .i64 n] K h := by
  obtain ⟨v, a, b, B, S⟩ := WB.op S0
  obtain ⟨out, N, Ss, Fs, Ts⟩ := z
  unfold packW at hK
  simp only at S hb hK
  refine meth_writer_pack.ok ?_
  unfold meth_writer_pack.p0
  have lF := (S.isl 1 v.y.f).1
  have cF := S.ile 1 v.y.f
  simp only [bools, List.length_map, Nat.mul_one] at lF
  simp only [bd, someE, rdS (S.rcc w 1 4 rfl)]
  by_cases hl : Fs.length < n
  · rw [if_pos hl] at hK
    exact ifT (by simp; omega) ((hK h).2 rfl ⟨_, S0⟩)
  · rw [if_neg hl] at hK
    refine ifF (by simp; omega) ⟨⟨by omega, by omega⟩, ?_⟩
    simp only [Int.toNat_natCast, slA_zero]
    have S1 := S.itake v.y.f (n := n) (by omega)
    have et : (bools Fs).take n = bools (Fs.take n) := by simp [bools]
    rw [et] at S1
    have S2 : St (WBo w v.y a b out :: Im 1 (v.y.f.1, n, v.y.f.2.2) (bools (Fs.take n)) :: Im 1 v.y.n (nums N) :: Im 1 v.y.s (strs Ss) :: Im 1 v.y.f (bools Fs) :: Tb B v.y.t Ts :: L) h := WBo.cl v.b S1.to
    refine ⟨n + 1, pack_loop (t := (v.y.f.1, n, v.y.f.2.2)) (fl := Fs.take n) (res := packGo (Fs.take n) 0 out) (by simp; omega) hn (fun h2 S3 => ?_) _ 0 out h (by omega) (by omega) (by omega) (fun e => absurd rfl e) rfl S2⟩
    unfold meth_writer_pack.j1
    obtain ⟨s, S4⟩ := WBo.op S3
    simp only [someE, rdS (S4.rcc w 1 4 rfl), Int.toNat_natCast]
    have S5 := S4.idrop v.y.f (n := n) (by omega)
    have ed : (bools Fs).drop n = bools (Fs.drop n) := by simp [bools]
    rw [ed] at S5
    refine ⟨⟨by omega, by omega⟩, S5.put2 w 1 4 (by simp) rfl fun h3 S6 => (hK h3).1 _ rfl ?_⟩
    simp only [List.set_cons_succ, List.set_cons_zero] at S6
    have S7 : St (Bx w (wcells a b ⟨s, v.y.n, v.y.s, (slA v.y.f.1 n v.y.f.2.2 1, v.y.f.2.1 - n, v.y.f.2.2 - n), v.y.t⟩) :: Ow 1 s (u8s (packGo (Fs.take n) 0 out)) :: Im 1 v.y.n (nums N) :: Im 1 v.y.s (strs Ss) :: Im 1 (slA v.y.f.1 n v.y.f.2.2 1, v.y.f.2.1 - n, v.y.f.2.2 - n) (bools (Fs.drop n)) :: Tb B v.y.t Ts :: L) h3 := S6.to
    exact WB.cl _ a b B S7

theorem woneS {w : Addr} {z : Oct × PM} {c : UInt8} (S : St (WB w z :: L) h) (hc : letter c) (hz : smallM z.2) (hb : z.1.length < 1099511627776) (hK : WK K L w (oneW c z)) :
    CallsH P F.meth_writer_one [.pointer (some w), .int .u8 (c.toNat : Int)] K h := by
  refine meth_writer_one.ok ?_
  unfold meth_writer_one.p0
  have e115 := eb8 c 115
  have e108 := eb8 c 108
  have e116 := eb8 c 116
  simp only [show ((116 : UInt8).toNat : Int) = 116 from rfl, show ((115 : UInt8).toNat : Int) = 115 from rfl, show ((108 : UInt8).toNat : Int) = 108 from rfl] at e115 e108 e116
  simp only [bd]
  unfold meth_writer_one.j1
  simp only [bd]
  rw [e115, e108, e116]
  unfold oneW at hK
  have ret : ∀ (b : Bool) (h' : Heap), K (.bool b) h' → ∃ b3, (Value.bool b) = .bool b3 ∧ K (.bool b3) h' := fun b h' k => ⟨b, rfl, k⟩
  by_cases k1 : c = 115
  · simp only [if_pos k1] at hK
    refine ifT (by simp [k1]) (ifT (by simp [k1]) ?_)
    rw [decide_eq_false (by rw [k1]; decide)]
    refine textS S (fun s hs => hz.sl s hs) hb fun h' => ⟨fun z' e S' => ⟨_, rfl, (hK h').1 z' ?_ S'⟩, fun e S' => ⟨_, rfl, (hK h').2 ?_ S'⟩⟩
    all_goals (rw [← e]; cases z.2.S <;> simp)
  simp only [if_neg k1] at hK
  refine ifF (by simp [k1]) ?_
  by_cases k2 : c = 108
  · simp only [if_pos k2] at hK
    refine ifT (by simp [k2]) ?_
    rw [decide_eq_true k2]
    refine textS S (fun s hs => hz.sl s hs) hb fun h' => ⟨fun z' e S' => ⟨_, rfl, (hK h').1 z' ?_ S'⟩, fun e S' => ⟨_, rfl, (hK h').2 ?_ S'⟩⟩
    all_goals (rw [← e]; cases z.2.S <;> simp)
  simp only [if_neg k2] at hK
  refine ifF (by simp [k2]) ?_
  by_cases k3 : c = 116
  · simp only [if_pos k3] at hK
    refine ifT (by simp [k3]) ?_
    exact wtableS S hz.t hb fun h' => ⟨fun z' e S' => ⟨_, rfl, (hK h').1 z' e S'⟩, fun e S' => ⟨_, rfl, (hK h').2 e S'⟩⟩
  simp only [if_neg k3] at hK
  refine ifF (by simp [k3]) ?_
  have hd : 49 ≤ c.toNat ∧ c.toNat ≤ 56 := by
    rcases hc with e | e | e | e
    · exact absurd e k1
    · exact absurd e k2
    · exact absurd e k3
    · exact e
  have ew : IntKind.i64.wrap (IntKind.u8.wrap ((c.toNat : Int) - 48)) = ((c.toNat - 48 : Nat) : Int) := by
    rw [IntKind.wrap_u8', wrapI (by omega) (by omega)]; omega
  rw [ew]
  exact numberS S hd hz.n64 hb fun h' => ⟨fun z' e S' => ⟨_, rfl, (hK h').1 z' e S'⟩, fun e S' => ⟨_, rfl, (hK h').2 e S'⟩⟩

theorem oneW_small {c : UInt8} {z z' : Oct × PM} (hz : smallM z.2) (h : oneW c z = some z') (hc : letter c) : smallM z'.2 ∧ z'.1.length ≤ z.1.length + 1073741832 := by
  obtain ⟨out, N, Ss, Fs, Ts⟩ := z
  unfold oneW at h
  split at h
  · cases Ss with
    | nil => cases h
    | cons s r =>
      simp only at h
      split at h
      · cases h
      · cases h
        have := hz.sl s (List.mem_cons_self ..)
        exact ⟨⟨hz.n, hz.n64, by have := hz.s; simp at this ⊢; omega, fun s' hs => hz.sl s' (List.mem_cons_of_mem _ hs), hz.f, hz.t, hz.tl⟩, by simp [octsN_length]; omega⟩
  split at h
  · cases Ss with
    | nil => cases h
    | cons s r =>
      cases h
      have := hz.sl s (List.mem_cons_self ..)
      exact ⟨⟨hz.n, hz.n64, by have := hz.s; simp at this ⊢; omega, fun s' hs => hz.sl s' (List.mem_cons_of_mem _ hs), hz.f, hz.t, hz.tl⟩, by simp [octsN_length]; omega⟩
  split at h
  · cases ht : tableP Ts with
    | none => simp only [ht] at h; cases h
    | some b =>
      simp only [ht] at h
      cases h
      have := rowsP_len ht
      exact ⟨⟨hz.n, hz.n64, hz.s, hz.sl, hz.f, fun f hf => (by cases hf), by simp⟩, by simp [octsN_length]; omega⟩
  · cases N with
    | nil => cases h
    | cons v r =>
      simp only at h
      split at h
      · cases h
        have hd : c.toNat < 256 := c.toNat_lt
        exact ⟨⟨by have := hz.n; simp at this ⊢; omega, fun v' hv => hz.n64 v' (List.mem_cons_of_mem _ hv), hz.s, hz.sl, hz.f, hz.t, hz.tl⟩, by simp [octsN_length]; omega⟩
      · cases h

theorem packW_small {n : Nat} {z z' : Oct × PM} (hz : smallM z.2) (h : packW n z = some z') (hn : n < 1000) : smallM z'.2 ∧ z'.1.length ≤ z.1.length + 1000 := by
  unfold packW at h
  split at h
  · cases h
  · cases h
    have := packGo_len (z.2.F.take n) 0 z.1
    exact ⟨⟨hz.n, hz.n64, hz.s, hz.sl, by have := hz.f; simp; omega, hz.t, hz.tl⟩, by simp at this ⊢; omega⟩

theorem App_loop {w : Addr} {t : SV} {res : Option (Oct × PM)} (hres : ∀ z h', res = some z → smallM z.2 → z.1.length < 1099511627776 → St (WB w z :: L) h' → meth_Append.j2 K t.1 t.2.1 t.2.2 true (some w) h') (hnone : ∀ z h', res = none → St (WB w z :: L) h' → meth_Append.j2 K t.1 t.2.1 t.2.2 false (some w) h') :
    ∀ (fuel : Nat) (f : Oct) (z : Oct × PM) (h : Heap), goodForm f → f.length < fuel → smallM z.2 → z.1.length + f.length * 1073742000 < 1099511627776 → formW fuel f z = res → St (WB w z :: L) h →
      meth_Append.L4 K (fuel + 1) t.1 t.2.1 t.2.2 f true (some w) h
  | 0, _, _, _, _, hf, _, _, _, _ => absurd hf (Nat.not_lt_zero _)
  | fuel + 1, f, z, h, g, hf, hz, hb, he, S => by
    unfold meth_Append.L4
    unfold formW at he
    by_cases e0 : f = []
    · rw [if_pos e0] at he
      refine ifF (by simp [e0]) ?_
      unfold meth_Append.j5
      exact ifF rfl (hres z h he.symm hz (by omega) S)
    rw [if_neg e0] at he
    have hpos := List.length_pos_iff.2 e0
    have hfl := flagsP_le f
    refine ifT (by simp [e0]) ?_
    unfold meth_Append.j5
    refine ifT rfl (flags.spec (by have := g.2; omega) ⟨_, rfl, ?_⟩)
    have stop : ∀ (n : Nat) (h' : Heap), n ≤ f.length → res = none → (∃ z, St (WB w z :: L) h') → meth_Append.j6 K (meth_Append.L4 K (fuel + 1)) t.1 t.2.1 t.2.2 f false (some w) n h' := by
      intro n h' hn e ⟨z', S'⟩
      unfold meth_Append.j6
      refine ⟨⟨by omega, by omega⟩, ?_⟩
      simp only [bd, Int.toNat_natCast]
      unfold meth_Append.L4 meth_Append.j5
      exact ⟨fun _ => ifF rfl (hnone z' h' e S'), fun _ => ifF rfl (hnone z' h' e S')⟩
    have go : ∀ (n : Nat) (h' : Heap) (z' : Oct × PM), 0 < n → n ≤ f.length → formW fuel (f.drop n) z' = res → smallM z'.2 → z'.1.length ≤ z.1.length + 1073742000 → St (WB w z' :: L) h' → meth_Append.j6 K (meth_Append.L4 K (fuel + 1)) t.1 t.2.1 t.2.2 f true (some w) n h' := by
      intro n h' z' hn0 hn e hz' hb' S'
      unfold meth_Append.j6
      refine ⟨⟨by omega, by omega⟩, ?_⟩
      simp only [bd, Int.toNat_natCast]
      exact App_loop hres hnone fuel (f.drop n) z' h' (g.drop n) (by rw [List.length_drop]; omega) hz' (by rw [List.length_drop]; omega) e S'
    by_cases h1 : 0 < flagsP f
    · rw [if_pos h1] at he
      refine ifT (by simp; omega) ?_
      have g2 := g.2
      refine packS S (by omega) (by omega) fun h' => ⟨fun z' e S' => ⟨_, rfl, ?_⟩, fun e S' => ⟨_, rfl, ?_⟩⟩
      · rw [e] at he
        have sm := packW_small hz e (by omega)
        exact go _ h' z' h1 hfl he sm.1 (by omega) S'
      · rw [e] at he
        exact stop _ h' hfl he.symm S'
    · rw [if_neg h1] at he
      refine ifF (by simp; omega) ⟨by omega, by omega, ?_⟩
      have hmem : f.getD 0 0 ∈ f := by
        cases f with
        | nil => exact absurd rfl e0
        | cons c t => simp
      have hc : letter (f.getD 0 0) := (g.1 _ hmem).resolve_left (flagsP_zero h1 e0)
      have elb : lb f 0 = ((f.getD 0 0).toNat : Int) := rfl
      rw [elb]
      refine woneS S hc hz (by omega) fun h' => ⟨fun z' e S' => ⟨_, rfl, ?_⟩, fun e S' => ⟨_, rfl, ?_⟩⟩
      · rw [e] at he
        have sm := oneW_small hz e hc
        exact go 1 h' z' (by omega) hpos he sm.1 (by omega) S'
      · rw [e] at he
        exact stop 1 h' hpos he.symm S'

theorem bld_writer' : (fun a b c d e f : Value => Instr.fill (Lift.places P (P.underlying T.meth_writer)) (zcl P T.meth_writer) [(1, .agg (List.toArray [a, b, c, d, e, f]))]) = fun a b c d e f => some (List.toArray [.slice none 0 0, a, b, c, d, e, f]) := by kernel_rfl
theorem bld_writer (a b c d e f : Value) : bld P T.meth_writer [(1, .agg (List.toArray [a, b, c, d, e, f]))] [.slice none 0 0, a, b, c, d, e, f] := congrFun (congrFun (congrFun (congrFun (congrFun (congrFun bld_writer' a) b) c) d) e) f

theorem mappS {t : SV} {bs : Oct} {a b : Int} {y : MV} {x : PM} {B : Nat → Prop} (S : St L h) [mt : In (fun b => Im 1 t (u8s b)) L bs] [In (Im 1 y.n) L (nums x.N)] [In (Im 1 y.s) L (strs x.S)] [In (Im 1 y.f) L (bools x.F)] [In (Tb B y.t) L x.T] (hx : smallM x) (hb : bs.length < 1073741824)
    (ha : -9223372036854775808 ≤ a ∧ a < 9223372036854775808) (hbb : -9223372036854775808 ≤ b ∧ b < 9223372036854775808)
    (hK : ∀ p l c h', St (Ow 1 (p, l, c) (u8s (bs ++ (methW a b x).getD [])) :: L) h' → K (.tuple #[.slice p l c, .bool (methW a b x).isSome]) h') :
    CallsH P F.meth_Append [.slice t.1 t.2.1 t.2.2, .agg (List.toArray (mcells a b y))] K h := by
  refine meth_Append.ok ?_
  unfold meth_Append.p0
  simp only [bd]
  have S1 := S.al (mcells a b y) T.api_Method
  generalize al h (mcells a b y).toArray T.api_Method = h1 at *
  generalize top h = m at *
  simp only [rdN (S1.rc m 0 rfl), rdN (S1.rc m 1 rfl)]
  unfold methW at hK
  have no : ∀ h', St L h' → (∀ p l c h', St (Ow 1 (p, l, c) (u8s bs) :: L) h' → K (.tuple #[.slice p l c, .bool false]) h') → CallsH P F.slices_Clone_byte_byte [.slice t.1 t.2.1 t.2.2] (fun v8 h9 => ∃ a10 a10l a10c, v8 = .slice a10 a10l a10c ∧ K (.tuple #[.slice a10 a10l a10c, .bool false]) h9) h' := by
    intro h' S' k
    exact cloneS S' (S'.iml mt.mem).1 (by omega) fun p l c h2 S2 => ⟨_, _, _, rfl, k p l c h2 S2⟩
  refine Form.spec fun h2 k2 => ⟨_, _, rfl, ?_⟩
  have S2 := S1.kept k2
  cases hf : formP (a, b) with
  | none =>
    simp only [hf] at hK
    exact ifT rfl (no h2 S2.tl (by simpa using hK))
  | some f =>
    simp only [hf] at hK
    have g := formP_good hf
    refine ifF rfl ⟨_, S2.rall m 6 rfl, _, bld_writer _ _ _ _ _ _, ?_⟩
    have S3 := S2.al (wcells a b ⟨(none, 0, 0), y⟩) T.meth_writer
    generalize al h2 (wcells a b ⟨(none, 0, 0), y⟩).toArray T.meth_writer = h3 at *
    generalize top h2 = w at *
    simp only [rdN (S3.rc m 0 rfl), rdN (S3.rc m 1 rfl), wrap_nat64, someE]
    have go : ∀ (p : OA) (l c : Nat) (h' : Heap), St (Bx w (wcells a b ⟨(p, l, c), y⟩) :: Ow 1 (p, l, c) (u8s (octsN 2 (nat64 a) ++ octsN 2 (nat64 b))) :: L) h' → meth_Append.j1 K t.1 t.2.1 t.2.2 f (some f).isSome (some w) h' := by
      intro p l c h' S'
      unfold meth_Append.j1
      have i1 : In (Im 1 y.n) L (nums x.N) := inferInstance
      have i2 : In (Im 1 y.s) L (strs x.S) := inferInstance
      have i3 : In (Im 1 y.f) L (bools x.F) := inferInstance
      have i4 : In (Tb B y.t) L x.T := inferInstance
      have S4 := ((((tbDup (B := B) (s := y.t) (fs := x.T) S').idup 1 y.f).idup 1 y.s).idup 1 y.n)
      have S5 : St (Bx w (wcells a b ⟨(p, l, c), y⟩) :: Ow 1 (p, l, c) (u8s (octsN 2 (nat64 a) ++ octsN 2 (nat64 b))) :: Im 1 y.n (nums x.N) :: Im 1 y.s (strs x.S) :: Im 1 y.f (bools x.F) :: Tb B y.t x.T :: L) h' := S4.to
      have S6 : St (WB w (octsN 2 (nat64 a) ++ octsN 2 (nat64 b), x) :: L) h' := WB.cl ⟨(p, l, c), y⟩ a b B S5
      refine ⟨f.length + 1 + 1, App_loop (t := t) (res := formW (f.length + 1) f (octsN 2 (nat64 a) ++ octsN 2 (nat64 b), x)) (fun z h7 e hz hzb S7 => ?_) (fun z h7 e S7 => ?_) _ f _ h' g (by omega) hx (by have := g.2; simp [octsN_length]; omega) rfl S6⟩
      · unfold meth_Append.j2
        refine ifF' rfl ?_
        simp only [e] at hK
        obtain ⟨v, a', b', B', S8⟩ := WB.op S7
        simp only [someE, rdS (S8.rcc w 1 2 rfl), rdS (S8.rcc w 1 3 rfl), rdS (S8.rcc w 1 4 rfl), rdS (S8.rcc w 1 5 rfl)]
        have l1 := (S8.isl 1 v.y.n).1
        have l2 := (S8.isl 1 v.y.s).1
        have l3 := (S8.isl 1 v.y.f).1
        have l4 := tbLen S8 (B := B') (s := v.y.t)
        simp only [nums, strs, bools, List.length_map, Nat.mul_one] at l1 l2 l3
        have z1 := hz.n
        have z2 := hz.s
        have z3 := hz.f
        have z4 := hz.tl
        have es : IntKind.i64.wrap ((IntKind.i64.wrap ((IntKind.i64.wrap (((v.y.n.2.1 : Nat) : Int) + ((v.y.s.2.1 : Nat) : Int))) + ((v.y.f.2.1 : Nat) : Int))) + ((v.y.t.2.1 : Nat) : Int)) = ((z.2.N.length + z.2.S.length + z.2.F.length + z.2.T.length : Nat) : Int) := by
          rw [wrapI (n := ((v.y.n.2.1 : Nat) : Int) + ((v.y.s.2.1 : Nat) : Int)) (by omega) (by omega), wrapI (n := _ + ((v.y.f.2.1 : Nat) : Int)) (by omega) (by omega), wrapI (by omega) (by omega)]
          omega
        rw [es]
        unfold meth_Append.j3
        by_cases hall : z.2.N = [] ∧ z.2.S = [] ∧ z.2.F = [] ∧ z.2.T = []
        · rw [if_pos hall] at hK
          simp only [Option.getD_some, Option.isSome_some] at hK
          obtain ⟨q1, q2, q3, q4⟩ := hall
          refine ifF (by rw [q1, q2, q3, q4]; rfl) ?_
          simp only [someE, rdS (S8.rc w 0 rfl)]
          refine ⟨?_, ?_⟩
          all_goals
            refine cloneS S8 (S8.tl.tl.tl.tl.tl.tl.iml mt.mem).1 (by omega) fun p l c h8 S9 => ⟨_, _, _, rfl, ?_⟩
            try simp only [rdS (S9.rc w 0 rfl)]
            refine appS (s := (p, l, c)) S9 (Src.slice (S9.osl 1 v.b) (u8s_one _)) (by omega) fun p l c h9 S10 => ⟨_, _, _, rfl, hK p l c h9 S10.to⟩
        · rw [if_neg hall] at hK
          refine ifT ?_ (no h7 S7.tl (by simpa using hK))
          refine decide_eq_true ?_
          rcases Nat.eq_zero_or_pos (z.2.N.length + z.2.S.length + z.2.F.length + z.2.T.length) with e0 | e0
          · exact absurd ⟨List.eq_nil_of_length_eq_zero (by omega), List.eq_nil_of_length_eq_zero (by omega), List.eq_nil_of_length_eq_zero (by omega), List.eq_nil_of_length_eq_zero (by omega)⟩ hall
          · omega
      · unfold meth_Append.j2
        refine ifT' rfl ?_
        simp only [e] at hK
        unfold meth_Append.j3
        exact ifT rfl (no h7 S7.tl (by simpa using hK))
    have slN : ∀ h : Heap, Sl 1 h none 0 (u8s []) := fun h => ⟨rfl, rfl⟩
    repeat' (with_reducible refine And.intro ?_ ?_)
    all_goals
      refine intS (s := (none, 0, 0)) (n := 2) (bs := []) S3 (slN _) (by simp) (by omega) (by omega) fun p l c h4 S4 => ⟨_, _, _, rfl, ?_⟩
      try simp only [rdN (S4.rc m 1 rfl), wrap_nat64]
      refine intS (s := (p, l, c)) (n := 2) S4 S4.sl (by simp [octsN_length]) (by omega) (by omega) fun p2 l2 c2 h5 S5 => ⟨_, _, _, rfl, S5.put1 w 0 (by simp) rfl fun h6 S6 => ?_⟩
      simp only [List.set_cons_zero, List.nil_append] at S6
      exact go p2 l2 c2 h6 S6.to
end
end Go.Proofs.Ytpfnfmlibpoleaa.Pr
