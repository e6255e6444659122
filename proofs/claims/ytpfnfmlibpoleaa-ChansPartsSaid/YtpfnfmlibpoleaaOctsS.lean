/- What the wire's octets do, told by assertions: rows that are written, readers. -/
import Derived.Test.YtpfnfmlibpoleaaOcts
import Derived.Test.YtpfnfmlibpoleaaLiftSt
set_option linter.unusedVariables false
namespace Go.Proofs.Ytpfnfmlibpoleaa.Pr
open Go Go.Lift Go.Proofs

section
variable {K : KT} {L : List Asr} {h : Heap}

theorem isl8 {s : SV} {bs : Oct} (S : St L h) [m : In (fun b => Im 1 s (u8s b)) L bs] : Sl 1 h s.1 s.2.1 (u8s bs) ∧ s.2.1 ≤ s.2.2 := S.iml m.mem

/-! ### Writing -/

theorem cloneS {s : SV} {bs : Oct} (S : St L h) (sl : Sl 1 h s.1 s.2.1 (u8s bs)) (hb : bs.length < 2199023255552)
    (hK : ∀ p l c h', St (Ow 1 (p, l, c) (u8s bs) :: L) h' → K (.slice p l c) h') : CallsH P F.slices_Clone_byte_byte [.slice s.1 s.2.1 s.2.2] K h :=
  Clone.spec sl hb fun p l c h' o f k => hK p l c h' (S.owNew o f k)
theorem intS {s : SV} {n v : Nat} {bs : Oct} (S : St L h) (sl : Sl 1 h s.1 s.2.1 (u8s bs)) (hb : bs.length < 1099511627776) (h1 : 1 ≤ n) (h8 : n ≤ 8)
    (hK : ∀ p l c h', St (Ow 1 (p, l, c) (u8s (bs ++ octsN n v)) :: L) h' → K (.slice p l c) h') : CallsH P F.octs_Int [.slice s.1 s.2.1 s.2.2, .int .i64 n, .int .u64 v] K h :=
  Int.spec sl hb h1 h8 fun p l c h' o f k => hK p l c h' (S.owNew o f k)
theorem longS {s t : SV} {bs cs : Oct} (S : St L h) (sl : Sl 1 h s.1 s.2.1 (u8s bs)) (tl : Sl 1 h t.1 t.2.1 (u8s cs)) (hb : bs.length < 1099511627776) (hc : cs.length < 1099511627776)
    (hK : ∀ p l c h', St (Ow 1 (p, l, c) (u8s (bs ++ octsN 4 cs.length ++ cs)) :: L) h' → K (.slice p l c) h') : CallsH P F.octs_Long [.slice s.1 s.2.1 s.2.2, .slice t.1 t.2.1 t.2.2] K h :=
  Long.spec sl tl hb hc fun p l c h' o f k => hK p l c h' (S.owNew o f k)
theorem shortS {s : SV} {bs cs : Oct} (S : St L h) (sl : Sl 1 h s.1 s.2.1 (u8s bs)) (hb : bs.length < 1099511627776)
    (hK : ∀ p l c h', St (Ow 1 (p, l, c) (u8s (if cs.length > 255 then bs else bs ++ octsN 1 cs.length ++ cs)) :: L) h' → K (.tuple #[.slice p l c, .bool (decide (cs.length ≤ 255))]) h') :
    CallsH P F.octs_Short [.slice s.1 s.2.1 s.2.2, .string (mkS cs)] K h :=
  Short.spec sl hb fun p l c h' o f k => hK p l c h' (S.owNew o f k)

/-- append, of octets. -/
theorem appS {s : SV} {n : Nat} {bs ws : Oct} {xv : Value} {R : List Asr} (S0 : St L h) [Has (fun b => Ow 1 s (u8s b)) L bs R] (src : Src P 1 h xv n (u8s ws)) (hl : bs.length + ws.length < 4398046511104)
    (hK : ∀ p l c h', St (Ow 1 (p, l, c) (u8s (bs ++ ws)) :: R) h' → K (.slice p l c) h') : SemH P (Builtin.append_ #[T.sl_uint8, T.sl_uint8] T.sl_uint8 #[.slice s.1 s.2.1 s.2.2, xv]) K h := by
  have S : St (Ow 1 s (u8s bs) :: R) h := S0.get (fun b => Ow 1 s (u8s b))
  have h1 := S.ow.1
  have h2 := src.1
  simp only [u8s_length, Nat.mul_one] at h1 h2
  refine S.app sl_uint8 rfl u_sl (fun k e => by cases e) src (by omega) (by omega) fun p c h' S' => hK p _ c h' ?_
  have e : u8s (bs ++ ws) = u8s bs ++ u8s ws := by simp [u8s]
  rw [e]
  exact S'
theorem appsS {s : SV} {bs ws : Oct} {R : List Asr} (S0 : St L h) [Has (fun b => Ow 1 s (u8s b)) L bs R] (hl : bs.length + ws.length < 4398046511104)
    (hK : ∀ p l c h', St (Ow 1 (p, l, c) (u8s (bs ++ ws)) :: R) h' → K (.slice p l c) h') : SemH P (Builtin.append_ #[T.sl_uint8, T.string] T.sl_uint8 #[.slice s.1 s.2.1 s.2.2, .string (mkS ws)]) K h := by
  have S : St (Ow 1 s (u8s bs) :: R) h := S0.get (fun b => Ow 1 s (u8s b))
  have h1 := S.ow.1
  simp only [u8s_length, Nat.mul_one] at h1
  refine S.app sl_uint8 rfl u_str (fun k e => by cases e) (Src.str ws) (by omega) (by omega) fun p c h' S' => hK p _ c h' ?_
  have e : u8s (bs ++ ws) = u8s bs ++ u8s ws := by simp [u8s]
  rw [e]
  exact S'

/-! ### Reading -/

/-- The reader at r. -/
def RdA (r : Addr) (s : RS) : Asr := ex fun p : SV => stars [Bx r [p.v, .bool s.2], Im 1 p (u8s s.1), fact (s.1.length < 1099511627776)]

theorem RdA.op {r : Addr} {s : RS} (S : St (RdA r s :: L) h) : ∃ p : SV, St (Bx r [p.v, .bool s.2] :: Im 1 p (u8s s.1) :: L) h ∧ s.1.length < 1099511627776 := by
  obtain ⟨p, S⟩ := S.ex
  have S := (St.p2 (St.open S)).fact
  exact ⟨p, S.2, S.1⟩
theorem RdA.cl {r : Addr} {s : RS} (p : SV) (S : St (Bx r [p.v, .bool s.2] :: Im 1 p (u8s s.1) :: L) h) (hl : s.1.length < 1099511627776) : St (RdA r s :: L) h :=
  St.ex' p (St.close (St.back [_, _] (S.fact' hl)))
theorem RdA.len {r : Addr} {s : RS} (S : St (RdA r s :: L) h) : s.1.length < 1099511627776 := (RdA.op S).choose_spec.2

theorem fromS {s : SV} {bs : Oct} (S : St L h) [m : In (fun b => Im 1 s (u8s b)) L bs] (hb : bs.length < 1099511627776) (hK : ∀ h', St (RdA (top h) (bs, false) :: L) h' → K (.pointer (some (top h))) h') : CallsH P F.octs_From [.slice s.1 s.2.1 s.2.2] K h := by
  refine octs_From.ok ?_
  unfold octs_From.p0
  simp only [bd]
  exact hK _ (RdA.cl s (St.al (S.imDup m.mem) [s.v, .bool false] T.octs_In) hb)

theorem miss {r : Addr} {s : RS} (S : St (RdA r s :: L) h) {R : Heap → Prop} (hR : ∀ h', St (RdA r ([], true) :: L) h' → R h') :
    ∃ h6, stC h (r.add 0) 0 [.slice none 0 0] = some h6 ∧ ∃ h7, stC h6 (r.add 1) 0 [.bool true] = some h7 ∧ R h7 := by
  obtain ⟨p, S, hl⟩ := RdA.op S
  refine S.wr 0 (by simp) rfl fun h6 S => S.wr 1 (by simp) rfl fun h7 S => hR h7 ?_
  exact RdA.cl (none, 0, 0) ((S.p1.tl.imNil 1 0).p1) (by simp)

theorem takeS {r : Addr} {s : RS} {R : List Asr} {n : Nat} (S0 : St L h) [Has (RdA r) L s R]
    (hK : ∀ p l c h', St (Ow 1 (p, l, c) (u8s (takeP n s).1) :: RdA r (takeP n s).2 :: R) h' → K (.slice p l c) h') : CallsH P F.octs_In_take [.pointer (some r), .int .u64 n] K h := by
  have S : St (RdA r s :: R) h := S0.get (RdA r)
  refine octs_In_take.ok ?_
  unfold octs_In_take.p0
  obtain ⟨p, S0, hl⟩ := RdA.op S
  obtain ⟨bs, bad⟩ := s
  have ht0 : takeP n (bs, bad) = ([], [], true) → octs_In_take.j1 K (some r) n true h := by
    intro ht
    unfold octs_In_take.j1
    refine ifT rfl ?_
    simp only [someE]
    refine miss S fun h7 S => hK none 0 0 h7 ?_
    rw [ht]
    exact S.owNil 1
  simp only [someE, rdB (S0.c 1 rfl), rdS (S0.c 0 rfl)]
  have hs := (S0.p1.iml (List.mem_cons_self ..))
  have el := Sl.len hs.1
  simp only at hl el
  cases bad with
  | true => exact ⟨fun e => (by cases e), fun _ => ht0 (by simp [takeP])⟩
  | false =>
    refine ⟨fun _ => ?_, fun e => (by cases e)⟩
    rw [wrap_len (by omega)]
    by_cases hn : bs.length < n
    · rw [decide_eq_true (by omega)]; exact ht0 (by simp [takeP, hn])
    · rw [decide_eq_false (by omega)]
      have ht : takeP n (bs, false) = (bs.take n, bs.drop n, false) := by simp [takeP]; omega
      rw [ht] at hK
      unfold octs_In_take.j1
      refine ifF rfl ?_
      simp only [someE, rdS (S0.c 0 rfl)]
      refine ⟨⟨by omega, by omega⟩, ?_⟩
      rw [Int.toNat_natCast, slA_zero]
      have st := Sl.take hs.1 (n := n) (by omega)
      rw [u8s_take] at st
      refine cloneS (s := (p.1, n, p.2.2)) S0 st (by simp; omega) fun q l c h2 S2 => ⟨_, _, _, rfl, ?_⟩
      simp only [rdS (S2.p1.c 0 rfl)]
      refine ⟨⟨by omega, by omega⟩, S2.p1.wr 0 (by simp) rfl fun h3 S3 => hK q l c h3 ?_⟩
      have S4 := S3.p2.imDrop (List.mem_cons_self ..) (n := n) (by omega)
      rw [u8s_drop] at S4
      exact (RdA.cl (s := (bs.drop n, false)) (slA p.1 n p.2.2 1, p.2.1 - n, p.2.2 - n) S4.d1.p1 (by simp; omega)).p1

theorem rintS {r : Addr} {s : RS} {R : List Asr} {n : Nat} (S0 : St L h) [Has (RdA r) L s R] (h1 : 1 ≤ n) (h8 : n ≤ 8)
    (hK : ∀ h', St (RdA r (takeP n s).2 :: R) h' → K (.int .u64 (numN (takeP n s).1)) h') : CallsH P F.octs_In_Int [.pointer (some r), .int .i64 n] K h := by
  have S : St (RdA r s :: R) h := S0.get (RdA r)
  refine octs_In_Int.ok ?_
  unfold octs_In_Int.p0
  refine width.spec (by omega) (by omega) ⟨_, rfl, ?_⟩
  rw [wrap_len (by omega)]
  refine takeS S fun p l c h' S' => ⟨_, _, _, rfl, ?_⟩
  exact number.spec S'.sl (takeP_len n s (RdA.len S)) ⟨_, rfl, hK h' S'.tl⟩

theorem okS {r : Addr} {s : RS} {R : List Asr} (S0 : St L h) [Has (RdA r) L s R] (hK : K (.bool (!s.2)) h) : CallsH P F.octs_In_Ok [.pointer (some r)] K h := by
  have S : St (RdA r s :: R) h := S0.get (RdA r)
  obtain ⟨p, S0, hl⟩ := RdA.op S
  refine octs_In_Ok.ok ?_
  unfold octs_In_Ok.p0
  simp only [someE, rdB (S0.c 1 rfl)]
  exact hK

theorem leftS {r : Addr} {s : RS} {R : List Asr} (S0 : St L h) [Has (RdA r) L s R] (hK : K (.int .i64 (s.1.length : Nat)) h) : CallsH P F.octs_In_Left [.pointer (some r)] K h := by
  have S : St (RdA r s :: R) h := S0.get (RdA r)
  obtain ⟨p, S0, hl⟩ := RdA.op S
  refine octs_In_Left.ok ?_
  unfold octs_In_Left.p0
  simp only [someE, rdS (S0.c 0 rfl), bd]
  rw [Sl.len (S0.p1.iml (List.mem_cons_self ..)).1]
  exact hK

theorem measuredS {r : Addr} {s : RS} {R : List Asr} {n : Nat} (S0 : St L h) [Has (RdA r) L s R] (hn : n ≤ 8)
    (hK : ∀ p l c h', St (Ow 1 (p, l, c) (u8s (measP n s).1) :: RdA r (measP n s).2 :: R) h' → K (.slice p l c) h') : CallsH P F.octs_In_measured [.pointer (some r), .int .i64 n] K h := by
  have S : St (RdA r s :: R) h := S0.get (RdA r)
  refine octs_In_measured.ok ?_
  unfold octs_In_measured.p0
  obtain ⟨p, S0, hl⟩ := RdA.op S
  obtain ⟨bs, bad⟩ := s
  have ht0 : (bad = true ∨ bs.length < n) → octs_In_measured.j1 K (some r) n true h := by
    intro ht
    unfold octs_In_measured.j1
    refine ifT rfl ?_
    rw [wrap_len (by omega)]
    have e : measP n (bs, bad) = takeP n (bs, bad) := by simp only [measP, takeP]; rw [if_pos ht, if_pos ht]
    rw [e] at hK
    exact takeS S fun p l c h' S' => ⟨_, _, _, rfl, hK p l c h' S'⟩
  simp only [someE, rdB (S0.c 1 rfl), rdS (S0.c 0 rfl)]
  have hs := (S0.p1.iml (List.mem_cons_self ..))
  have el := Sl.len hs.1
  simp only at hl el
  cases bad with
  | true => exact ⟨fun e => (by cases e), fun _ => ht0 (.inl rfl)⟩
  | false =>
    refine ⟨fun _ => ?_, fun e => (by cases e)⟩
    by_cases hlt : bs.length < n
    · rw [decide_eq_true (by omega)]; exact ht0 (.inr hlt)
    · rw [decide_eq_false (by omega)]
      unfold octs_In_measured.j1
      refine ifF rfl ?_
      simp only [someE, rdS (S0.c 0 rfl)]
      refine ⟨⟨by omega, by omega⟩, ?_⟩
      rw [Int.toNat_natCast, slA_zero]
      have st := Sl.take hs.1 (n := n) (by omega)
      rw [u8s_take] at st
      refine number.spec st (by simp; omega) ⟨_, rfl, ?_⟩
      simp only [rdS (S0.c 0 rfl)]
      have ew : IntKind.u64.wrap (IntKind.i64.wrap ((p.2.1 : Int) - (n : Int))) = ((p.2.1 - n : Nat) : Int) := by
        rw [wrapI (by omega) (by omega), IntKind.wrap_u64]; omega
      rw [ew]
      by_cases hg : numN (bs.take n) > bs.length - n
      · refine ifT (by simp; omega) (miss S fun h7 S => hK none 0 0 h7 ?_)
        have ht : measP n (bs, false) = ([], [], true) := by simp only [measP]; rw [if_neg (by simp; omega), if_pos hg]
        rw [ht]
        exact S.owNil 1
      · refine ifF (by simp; omega) ⟨⟨by omega, by omega⟩, S0.wr 0 (by simp) rfl fun h3 S3 => ?_⟩
        have S4 := S3.p1.imDrop (List.mem_cons_self ..) (n := n) (by omega)
        rw [u8s_drop] at S4
        have S5 := RdA.cl (s := (bs.drop n, false)) (slA p.1 n p.2.2 1, p.2.1 - n, p.2.2 - n) S4.d1.p1 (by simp; omega)
        have ht : measP n (bs, false) = takeP (numN (bs.take n)) (bs.drop n, false) := by
          simp only [measP, takeP]
          rw [if_neg (by simp; omega), if_neg hg, if_neg (by simp; omega)]
        rw [ht] at hK
        exact takeS S5 fun q l c h2 S6 => ⟨_, _, _, rfl, hK q l c h2 S6⟩

theorem rshortS {r : Addr} {s : RS} {R : List Asr} (S0 : St L h) [Has (RdA r) L s R] (hK : ∀ h', St (RdA r (measP 1 s).2 :: R) h' → K (.string (mkS (measP 1 s).1)) h') : CallsH P F.octs_In_Short [.pointer (some r)] K h := by
  have S : St (RdA r s :: R) h := S0.get (RdA r)
  refine octs_In_Short.ok ?_
  unfold octs_In_Short.p0
  refine measuredS (n := 1) S (by omega) fun p l c h' S' => ⟨_, _, _, rfl, ?_⟩
  exact str_ok u_sl u_u8 u_str S'.sl ⟨_, rfl, hK h' S'.tl⟩

theorem rlongS {r : Addr} {s : RS} {R : List Asr} (S0 : St L h) [Has (RdA r) L s R] (hK : ∀ p l c h', St (Ow 1 (p, l, c) (u8s (measP 4 s).1) :: RdA r (measP 4 s).2 :: R) h' → K (.slice p l c) h') : CallsH P F.octs_In_Long [.pointer (some r)] K h := by
  have S : St (RdA r s :: R) h := S0.get (RdA r)
  refine octs_In_Long.ok ?_
  unfold octs_In_Long.p0
  exact measuredS (n := 4) S (by omega) fun p l c h' S' => ⟨_, _, _, rfl, hK p l c h' S'⟩
end
end Go.Proofs.Ytpfnfmlibpoleaa.Pr
