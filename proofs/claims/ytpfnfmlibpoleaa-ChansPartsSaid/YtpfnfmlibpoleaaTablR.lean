/- Tables are read: plainly, and each function's contract. -/
import Derived.Test.YtpfnfmlibpoleaaTablW
set_option linter.unusedVariables false
set_option linter.unusedSimpArgs false
namespace Go.Proofs.Ytpfnfmlibpoleaa.Pr
open Go Go.Lift Go.Proofs

/-- What stands behind a field's kind: its number, text, table; whether it is such; what is left. -/
def readP (ps : Oct → Option (List PF)) (k : UInt8) (s : RS) : Int × Oct × List PF × Bool × RS :=
  if k = 116 then (IntKind.i64.wrap (numN (takeP 1 s).1 : Nat), [], [], true, (takeP 1 s).2)
  else if k = 73 then (IntKind.i64.wrap (IntKind.i32.wrap (numN (takeP 4 s).1 : Nat)), [], [], true, (takeP 4 s).2)
  else if k = 108 then (IntKind.i64.wrap (numN (takeP 8 s).1 : Nat), [], [], true, (takeP 8 s).2)
  else if k = 83 then (0, (measP 4 s).1, [], true, (measP 4 s).2)
  else if k = 70 then (0, [], (ps (measP 4 s).1).getD [], (ps (measP 4 s).1).isSome, (measP 4 s).2)
  else (0, [], [], true, s)

def kindP (s : RS) : UInt8 := UInt8.ofNat (numN (takeP 1 s).1)

def loopP (ps : Oct → Option (List PF)) : Nat → RS → List PF → Option (List PF)
  | 0, _, _ => none
  | k + 1, s, out =>
    if s.1 = [] then some out
    else
      let a := measP 1 s
      let b := takeP 1 a.2
      let r := readP ps (kindP a.2) b.2
      if r.2.2.2.1 = false ∨ r.2.2.2.2.2 = true then none
      else loopP ps k r.2.2.2.2 (out ++ [PF.mk a.1 (kindP a.2) r.1 r.2.1 r.2.2.1])

/-- The table that octets are; d: how much deeper it may be. -/
def parseP : Nat → Oct → Option (List PF)
  | 0, _ => none
  | d + 1, b => if b.length > 2000 then none else loopP (parseP d) (b.length + 1) (b, false) []

theorem sl_field : SlT P T.sl_api_Field T.api_Field 5 72 [.string (mkS ([] : List UInt8)), .int .u8 0, .int .i64 0, .string (mkS ([] : List UInt8)), .slice none 0 0] := slT (by kernel_rfl) (by kernel_rfl)
theorem u_slf : P.underlying T.sl_api_Field = some (.slice T.api_Field) := by kernel_rfl
theorem bld_field' : (fun a b c d e : Value => Instr.fill (Lift.places P (P.underlying T.sl_api_Field)) (zrow (zcl P T.api_Field).toList 1 (P.cellsOf T.api_Field)).toArray [(0, .agg (List.toArray [a, b, c, d, e]))]) = fun a b c d e => some (List.toArray [a, b, c, d, e]) := by kernel_rfl
theorem bld_field (a b c d e : Value) : bldS P T.sl_api_Field T.api_Field 1 [(0, .agg (List.toArray [a, b, c, d, e]))] [a, b, c, d, e] := congrFun (congrFun (congrFun (congrFun (congrFun bld_field' a) b) c) d) e

section
variable {K : KT} {L R : List Asr} {h : Heap}

theorem owtApp {s t : SV} {fs : List PF} {f : PF} {B1 : Nat → Prop} {a : Addr} (S : St (OwT s fs :: Bx a (fcells (f, t)) :: Tb B1 t f.t :: L) h) (hl : fs.length < 1000000) (hK : ∀ p l c h', St (OwT (p, l, c) (fs ++ [f]) :: L) h' → K (.slice p l c) h') :
    SemH P (Builtin.append_ #[T.sl_api_Field, T.sl_api_Field] T.sl_api_Field #[.slice s.1 s.2.1 s.2.2, .slice (some a) 1 1]) K h := by
  have hlen := owtLen S
  obtain ⟨⟨ts, B⟩, S⟩ := S.ex
  have S := S.split
  simp only at S
  have sa : Sl 5 h (some a) 1 (fcells (f, t)) := ⟨rfl, (S.p2.mem).1⟩
  refine S.app sl_field rfl u_slf (fun k e => by cases e) (Src.slice (n := 1) (c := 1) sa (by simp [fcells, one, SV.v])) (by omega) (by omega) fun p c h' S' => hK p _ c h' (St.ex' (ts ++ [t], fun b => B b ∨ B1 b) ?_)
  have S1 : St (Tbs B ts fs :: Tb B1 t f.t :: Ow 5 (p, s.2.1 + 1, c) ((fs.zip ts).flatMap fcells ++ fcells (f, t)) :: L) h' := S'.to
  obtain ⟨h2, d, h3⟩ := (S1.sh (List.mem_cons_self ..)).1
  obtain ⟨h4, d1, h5⟩ := (S1.p1.sh (List.mem_cons_self ..)).1
  have e : ((fs ++ [f]).zip (ts ++ [t])).flatMap fcells = (fs.zip ts).flatMap fcells ++ fcells (f, t) := by rw [List.zip_append h2.symm]; simp
  refine St.join (St.p1 ?_)
  rw [e]
  refine S1.toSh sh_dom sh_dom (fun b hb => hb) (Tbs.lc _ _ _) ⟨by simp [h2], d + d1, fun i f' t' e1 e2 => ?_⟩
  rw [List.getElem?_append] at e1 e2
  rw [h2] at e2
  split at e1
  · rename_i hlt
    rw [if_pos hlt] at e2
    exact ⟨(h3 i f' t' e1 e2).1, ((h3 i f' t' e1 e2).2.mono fun _ x => .inl x).deep d1⟩
  · rename_i hlt
    rw [if_neg hlt] at e2
    obtain rfl : i = fs.length := by
      have := (List.getElem?_eq_some_iff.1 e1).1
      simp at this
      omega
    simp only [Nat.sub_self, List.getElem?_cons_zero, Option.some.injEq] at e1 e2
    subst e1; subst e2
    rw [Nat.add_comm d d1]
    exact ⟨h4, (h5.mono fun _ x => .inr x).deep d⟩

def ParseC (d : Nat) : Prop := ∀ {K : KT} {L : List Asr} {h : Heap} {s : SV} {bs : Oct} (S : St L h) [In (fun b => Im 1 s (u8s b)) L bs] (hb : bs.length < 1099511627776)
  (hK : ∀ p l c h' B, St (Tb B (p, l, c) ((parseP d bs).getD []) :: L) h' → K (.tuple #[.slice p l c, .bool (parseP d bs).isSome]) h'),
  CallsH P F.tabl_parse [.slice s.1 s.2.1 s.2.2, .int .i64 (9 - (d : Int))] K h

abbrev fbox (name : Oct) (k : UInt8) (n : Int) (s : Oct) (t : SV) : List Value := [.string (mkS name), .int .u8 (k.toNat : Int), .int .i64 n, .string (mkS s), t.v]

theorem read_of {d : Nat} (hp : ParseC d) (hd : d ≤ 7) {r f : Addr} {s : RS} {name : Oct} {k : UInt8} (S : St (RdA r s :: Bx f (fbox name k 0 [] (none, 0, 0)) :: L) h)
    (hK : ∀ h' B t, St (RdA r (readP (parseP d) k s).2.2.2.2 :: Bx f (fbox name k (readP (parseP d) k s).1 (readP (parseP d) k s).2.1 t) :: Tb B t (readP (parseP d) k s).2.2.1 :: L) h' → K (.bool (readP (parseP d) k s).2.2.2.1) h') :
    CallsH P F.tabl_read [.pointer (some r), .pointer (some f), .int .i64 (8 - (d : Int))] K h := by
  refine tabl_read.ok ?_
  unfold tabl_read.p0
  have eb : ∀ n : UInt8, (((k.toNat : Nat) : Int) == (n.toNat : Int)) = decide (k = n) := fun n => by
    rw [Bool.eq_iff_iff, beq_iff_eq, decide_eq_true_eq]
    exact ⟨fun e => UInt8.toNat_inj.1 (by omega), fun e => by rw [e]⟩
  have e116 := eb 116
  have e73 := eb 73
  have e108 := eb 108
  have e83 := eb 83
  have e70 := eb 70
  simp only [show ((116 : UInt8).toNat : Int) = 116 from rfl, show ((73 : UInt8).toNat : Int) = 73 from rfl, show ((108 : UInt8).toNat : Int) = 108 from rfl, show ((83 : UInt8).toNat : Int) = 83 from rfl, show ((70 : UInt8).toNat : Int) = 70 from rfl] at e116 e73 e108 e83 e70
  simp only [someE, rdN (S.rc f 1 rfl), bd]
  rw [e116, e73, e108, e83, e70]
  unfold readP at hK
  by_cases k1 : k = 116
  · simp only [if_pos k1] at hK
    refine ifT (by simp [k1]) (rintS (n := 1) S (by omega) (by omega) fun h1 S1 => ⟨_, rfl, S1.put1 f 2 (by simp [fbox]) rfl fun h2 S2 => hK h2 (fun _ => False) (none, 0, 0) ?_⟩)
    simp only [fbox, List.set_cons_succ, List.set_cons_zero] at S2
    exact (tbNil 0 S2).to
  simp only [if_neg k1] at hK
  refine ifF (by simp [k1]) ?_
  by_cases k2 : k = 73
  · simp only [if_pos k2] at hK
    refine ifT (by simp [k2]) (rintS (n := 4) S (by omega) (by omega) fun h1 S1 => ⟨_, rfl, S1.put1 f 2 (by simp [fbox]) rfl fun h2 S2 => hK h2 (fun _ => False) (none, 0, 0) ?_⟩)
    simp only [fbox, List.set_cons_succ, List.set_cons_zero] at S2
    exact (tbNil 0 S2).to
  simp only [if_neg k2] at hK
  refine ifF (by simp [k2]) ?_
  by_cases k3 : k = 108
  · simp only [if_pos k3] at hK
    refine ifT (by simp [k3]) (rintS (n := 8) S (by omega) (by omega) fun h1 S1 => ⟨_, rfl, S1.put1 f 2 (by simp [fbox]) rfl fun h2 S2 => hK h2 (fun _ => False) (none, 0, 0) ?_⟩)
    simp only [fbox, List.set_cons_succ, List.set_cons_zero] at S2
    exact (tbNil 0 S2).to
  simp only [if_neg k3] at hK
  refine ifF (by simp [k3]) ?_
  by_cases k4 : k = 83
  · simp only [if_pos k4] at hK
    refine ifT (by simp [k4]) (rlongS S fun p l c h1 S1 => ⟨_, _, _, rfl, str_ok u_sl u_u8 u_str (S1.osl 1 (p, l, c)) ⟨_, rfl, S1.put1 f 3 (by simp [fbox]) rfl fun h2 S2 => hK h2 (fun _ => False) (none, 0, 0) ?_⟩⟩)
    simp only [fbox, List.set_cons_succ, List.set_cons_zero] at S2
    exact (tbNil 0 S2).to
  simp only [if_neg k4] at hK
  refine ifF (by simp [k4]) ?_
  by_cases k5 : k = 70
  · simp only [if_pos k5] at hK
    have hlen : (measP 4 s).1.length < 1099511627776 := by
      have := RdA.len S
      unfold measP
      split
      · simp
      · split
        · simp
        · simp; omega
    refine ifT (by simp [k5]) (rlongS S fun p l c h1 S1 => ⟨_, _, _, rfl, ?_⟩)
    have ed : IntKind.i64.wrap (8 - (d : Int) + 1) = 9 - (d : Int) := by rw [wrapI (by omega) (by omega)]; omega
    rw [ed]
    refine hp (s := (p, l, c)) (bs := (measP 4 s).1) (S1.fz 1 (p, l, c)) hlen fun p2 l2 c2 h2 B S2 => ⟨_, _, _, _, rfl, S2.put1 f 4 (by simp [fbox]) rfl fun h3 S3 => hK h3 B (p2, l2, c2) ?_⟩
    simp only [fbox, List.set_cons_succ, List.set_cons_zero] at S3
    exact S3.to
  simp only [if_neg k5] at hK
  exact ifF (by simp [k5]) (hK h (fun _ => False) (none, 0, 0) (tbNil 0 S).to)

theorem measP_le (n : Nat) (s : RS) : (measP n s).1.length ≤ s.1.length ∧ (measP n s).2.1.length ≤ s.1.length := by
  unfold measP
  split
  · simp
  · split
    · simp
    · simp; omega
theorem takeP_le (n : Nat) (s : RS) : (takeP n s).1.length ≤ s.1.length ∧ (takeP n s).2.1.length ≤ s.1.length := by
  unfold takeP
  split
  · simp
  · simp; omega
theorem readP_le (ps : Oct → Option (List PF)) (k : UInt8) (s : RS) : (readP ps k s).2.2.2.2.1.length ≤ s.1.length := by
  have h1 := takeP_le 1 s
  have h4 := takeP_le 4 s
  have h8 := takeP_le 8 s
  have m4 := measP_le 4 s
  unfold readP
  repeat' (first | omega | split)
  all_goals simp only
  all_goals omega
theorem measP_lt {s : RS} (h : s.1 ≠ []) : (measP 1 s).2.1.length < s.1.length := by
  have := List.length_pos_iff.2 h
  unfold measP
  split
  · simpa
  · split
    · simpa
    · simp; omega

theorem loopP_fuel (ps : Oct → Option (List PF)) : ∀ (k k' : Nat) (st : RS) (out : List PF), st.1.length < k → st.1.length < k' → loopP ps k st out = loopP ps k' st out
  | 0, _, _, _, h, _ => absurd h (Nat.not_lt_zero _)
  | _, 0, _, _, _, h => absurd h (Nat.not_lt_zero _)
  | k + 1, k' + 1, st, out, h1, h2 => by
    unfold loopP
    by_cases he : st.1 = []
    · rw [if_pos he, if_pos he]
    · rw [if_neg he, if_neg he]
      have hlt := measP_lt he
      have hk := takeP_le 1 (measP 1 st).2
      have hrd := readP_le ps (kindP (measP 1 st).2) (takeP 1 (measP 1 st).2).2
      simp only
      split
      · rfl
      · exact loopP_fuel ps k k' _ _ (by omega) (by omega)

theorem parse_loop {d : Nat} (hp : ParseC d) (hd : d ≤ 7) {r : Addr} {res : Option (List PF)}
    (hK : ∀ p l c h' B, St (Tb B (p, l, c) (res.getD []) :: L) h' → K (.tuple #[.slice p l c, .bool res.isSome]) h') :
    ∀ (fuel : Nat) (st : RS) (s : SV) (out : List PF) (h : Heap), st.1.length < fuel → out.length + st.1.length < 1000000 → (∀ k, st.1.length < k → loopP (parseP d) k st out = res) → St (OwT s out :: RdA r st :: L) h →
      tabl_parse.L2 K fuel (8 - (d : Int)) s.1 s.2.1 s.2.2 (some r) h
  | 0, _, _, _, _, hf, _, _, _ => absurd hf (Nat.not_lt_zero _)
  | fuel + 1, st, s, out, h, hf, ho, hg, S => by
    unfold tabl_parse.L2
    refine leftS S ⟨_, rfl, ?_⟩
    have fail : res = none → ∀ h', St L h' → K (.tuple #[.slice none 0 0, .bool false]) h' := by
      intro e h' S'
      subst e
      exact hK none 0 0 h' _ (tbNil 0 S')
    by_cases he : st.1 = []
    · refine ifF (by simp [he]) ?_
      have := hg (fuel + 1) hf
      unfold loopP at this
      rw [if_pos he] at this
      obtain ⟨B, S'⟩ := owtTb S
      subst this
      have S2 : St (Tb B s out :: L) h := S'.to
      exact hK s.1 s.2.1 s.2.2 h B S2
    · have hpos := List.length_pos_iff.2 he
      refine ifT (by simp; omega) ?_
      have hlt := measP_lt he
      have hk := takeP_le 1 (measP 1 st).2
      have hrd := readP_le (parseP d) (kindP (measP 1 st).2) (takeP 1 (measP 1 st).2).2
      have hg' : ∀ k, st.1.length ≤ k → (if (readP (parseP d) (kindP (measP 1 st).2) (takeP 1 (measP 1 st).2).2).2.2.2.1 = false ∨ (readP (parseP d) (kindP (measP 1 st).2) (takeP 1 (measP 1 st).2).2).2.2.2.2.2 = true then none
          else loopP (parseP d) k (readP (parseP d) (kindP (measP 1 st).2) (takeP 1 (measP 1 st).2).2).2.2.2.2 (out ++ [PF.mk (measP 1 st).1 (kindP (measP 1 st).2) (readP (parseP d) (kindP (measP 1 st).2) (takeP 1 (measP 1 st).2).2).1
            (readP (parseP d) (kindP (measP 1 st).2) (takeP 1 (measP 1 st).2).2).2.1 (readP (parseP d) (kindP (measP 1 st).2) (takeP 1 (measP 1 st).2).2).2.2.1])) = res := by
        intro k hk
        have := hg (k + 1) (by omega)
        unfold loopP at this
        rw [if_neg he] at this
        exact this
      refine rshortS S fun h1 S1 => ⟨_, rfl, ?_⟩
      simp only [bd]
      have S2 := S1.al [.string (mkS ([] : List UInt8)), .int .u8 0, .int .i64 0, .string (mkS ([] : List UInt8)), .slice none 0 0] T.api_Field
      refine ⟨rfl, S2.putA (top h1) rfl (by simp [one]) fun h2 S3 => ?_⟩
      clear S2
      generalize top h1 = a at *
      refine rintS (n := 1) S3 (by omega) (by omega) fun h3 S4 => ⟨_, rfl, ?_⟩
      have ek : IntKind.u8.wrap ((numN (takeP 1 (measP 1 st).2).1 : Nat) : Int) = (((kindP (measP 1 st).2).toNat : Nat) : Int) := by
        unfold kindP
        rw [IntKind.wrap_u8', UInt8.toNat_ofNat']
        omega
      rw [ek]
      refine S4.put1 a 1 (by simp) rfl fun h4 S5 => ?_
      simp only [List.set_cons_succ, List.set_cons_zero] at S5
      have S6 : St (RdA r (takeP 1 (measP 1 st).2).2 :: Bx a (fbox (measP 1 st).1 (kindP (measP 1 st).2) 0 [] (none, 0, 0)) :: OwT s out :: L) h4 := S5.to
      refine read_of hp hd S6 fun h5 B t S7 => ⟨_, rfl, ?_⟩
      generalize readP (parseP d) (kindP (measP 1 st).2) (takeP 1 (measP 1 st).2).2 = rd at *
      obtain ⟨n, str, tfs, ok, st'⟩ := rd
      simp only at S7 hg' hrd ⊢
      cases ok with
      | false =>
        refine ifT' rfl ?_
        unfold tabl_parse.j3
        refine ifT rfl (fail ?_ h5 S7.to)
        have := hg' st.1.length (Nat.le_refl _)
        simpa using this.symm
      | true =>
        refine ifF' rfl ?_
        refine okS S7 ⟨_, rfl, ?_⟩
        unfold tabl_parse.j3
        cases hbad : st'.2 with
        | true =>
          refine ifT (by simp) (fail ?_ h5 S7.to)
          have := hg' st.1.length (Nat.le_refl _)
          simpa [hbad] using this.symm
        | false =>
          refine ifF (by simp) ?_
          refine ⟨_, S7.rall a 5 rfl, _, bld_field _ _ _ _ _, ?_⟩
          simp only [bd]
          have S8 := S7.al (fcells (PF.mk (measP 1 st).1 (kindP (measP 1 st).2) n str tfs, t)) T.api_Field
          have S9 : St (OwT s out :: Bx (top h5) (fcells (PF.mk (measP 1 st).1 (kindP (measP 1 st).2) n str tfs, t)) :: Tb B t tfs :: RdA r st' :: L) _ := S8.to
          refine owtApp S9 (by omega) fun p l c h6 S10 => ⟨_, _, _, rfl, ?_⟩
          refine parse_loop hp hd hK fuel st' (p, l, c) _ h6 (by omega) (by simp; omega) (fun k hk => ?_) S10
          have := hg' st.1.length (Nat.le_refl _)
          rw [if_neg (by simp [hbad])] at this
          rw [← this]
          exact loopP_fuel _ k st.1.length st' _ hk (by omega)

theorem parse_spec : ∀ d : Nat, d ≤ 8 → ParseC d
  | 0, _ => by
    intro S _ hb hK; rename_i K L h s bs _ _
    refine tabl_parse.ok ?_
    unfold tabl_parse.p0 tabl_parse.j1
    refine ifT' (by decide) (ifT rfl ?_)
    exact hK none 0 0 h _ (tbNil 0 S)
  | d + 1, hd => by
    intro S _ hb hK; rename_i K L h s bs _
    have hp : ParseC d := parse_spec d (by omega)
    have hl := Sl.len (isl8 S (s := s) (bs := bs)).1
    refine tabl_parse.ok ?_
    unfold tabl_parse.p0 tabl_parse.j1
    have ed : 9 - ((d + 1 : Nat) : Int) = 8 - (d : Int) := by omega
    rw [ed]
    refine ifF' (decide_eq_false (by omega)) ?_
    unfold parseP at hK
    by_cases hg : bs.length > 2000
    · rw [if_pos hg] at hK
      exact ifT (decide_eq_true (by omega)) (hK none 0 0 h _ (tbNil 0 S))
    · rw [if_neg hg] at hK
      refine ifF (decide_eq_false (by omega)) ?_
      refine fromS S hb fun h1 S1 => ⟨_, rfl, bs.length + 1, ?_⟩
      exact parse_loop hp (by omega) hK _ (bs, false) (none, 0, 0) [] h1 (by simp) (by simp; omega) (fun k hk => loopP_fuel _ k _ _ _ hk (by simp)) (owtNil S1)

/-- The table that octets are. -/
def tparseP (b : Oct) : Option (List PF) := match parseP 8 b with
  | some l => if (tableP l).isSome then some l else none
  | none => none

/-- Fields that are small, however deep. -/
def smallF (f : PF) : Prop := f.name.length < 1099511627776 ∧ f.s.length < 1099511627776 ∧ ∀ e, smallP e f.t
theorem smallP_of {l : List PF} (h : ∀ f ∈ l, smallF f) : ∀ e, smallP e l
  | 0 => trivial
  | e + 1 => fun f hf => ⟨(h f hf).1, (h f hf).2.1, (h f hf).2.2 e⟩

theorem readP_small {ps : Oct → Option (List PF)} (hps : ∀ b l, ps b = some l → b.length < 1099511627776 → ∀ e, smallP e l) (k : UInt8) (s : RS) (hs : s.1.length < 1099511627776) :
    (readP ps k s).2.1.length < 1099511627776 ∧ ∀ e, smallP e (readP ps k s).2.2.1 := by
  have m4 := measP_le 4 s
  have nil : ∀ e, smallP e [] := fun e => smallP_of (by simp) e
  unfold readP
  split
  · exact ⟨by simp, nil⟩
  split
  · exact ⟨by simp, nil⟩
  split
  · exact ⟨by simp, nil⟩
  split
  · exact ⟨by simp only; omega, nil⟩
  split
  · refine ⟨by simp, ?_⟩
    cases hp : ps (measP 4 s).1 with
    | none => exact nil
    | some l => exact hps _ _ hp (by omega)
  · exact ⟨by simp, nil⟩

theorem loopP_small {ps : Oct → Option (List PF)} (hps : ∀ b l, ps b = some l → b.length < 1099511627776 → ∀ e, smallP e l) : ∀ (k : Nat) (st : RS) (out l : List PF), loopP ps k st out = some l → st.1.length < 1099511627776 → (∀ f ∈ out, smallF f) → ∀ f ∈ l, smallF f
  | 0, _, _, _, h, _, _ => by cases h
  | k + 1, st, out, l, h, hs, ho => by
    unfold loopP at h
    split at h
    · cases h; exact ho
    · simp only at h
      split at h
      · cases h
      · have m1 := measP_le 1 st
        have t1 := takeP_le 1 (measP 1 st).2
        have r1 := readP_le ps (kindP (measP 1 st).2) (takeP 1 (measP 1 st).2).2
        have r2 := readP_small hps (kindP (measP 1 st).2) (takeP 1 (measP 1 st).2).2 (by omega)
        refine loopP_small hps k _ _ l h (by omega) fun f hf => ?_
        rcases List.mem_append.1 hf with hf | hf
        · exact ho f hf
        · rw [List.mem_singleton] at hf
          subst hf
          exact ⟨by show (measP 1 st).1.length < _; omega, r2.1, r2.2⟩

theorem parseP_small : ∀ (d : Nat) (b : Oct) (l : List PF), parseP d b = some l → b.length < 1099511627776 → ∀ e, smallP e l
  | 0, _, _, h, _ => by cases h
  | d + 1, b, l, h, hb => by
    unfold parseP at h
    split at h
    · cases h
    · exact smallP_of (loopP_small (parseP_small d) _ _ _ _ h hb (by simp))

theorem tparseS {s : SV} {bs : Oct} (S : St L h) [In (fun b => Im 1 s (u8s b)) L bs] (hb : bs.length < 1099511627776)
    (hK : ∀ p l c h' B, St (Tb B (p, l, c) ((tparseP bs).getD []) :: L) h' → K (.tuple #[.slice p l c, .bool (tparseP bs).isSome]) h') : CallsH P F.tabl_Parse [.slice s.1 s.2.1 s.2.2] K h := by
  refine tabl_Parse.ok ?_
  unfold tabl_Parse.p0
  have hp : ParseC 8 := parse_spec 8 (by omega)
  unfold tparseP at hK
  refine hp S hb fun p l c h1 B S1 => ⟨_, _, _, _, rfl, ?_⟩
  cases e : parseP 8 bs with
  | none =>
    rw [e] at hK S1
    exact ifT' rfl (ifT rfl (hK none 0 0 h1 _ (tbNil 0 S1.tl)))
  | some fs =>
    rw [e] at hK S1
    refine ifF' rfl (tokS (B := B) (t := (p, l, c)) S1 (parseP_small 8 bs fs e hb 8) fun h2 S2 => ⟨_, rfl, ?_⟩)
    cases e2 : (tableP fs).isSome with
    | false =>
      simp only [e2] at hK
      exact ifT rfl (hK none 0 0 h2 _ (tbNil 0 S2.tl))
    | true =>
      simp only [e2] at hK
      exact ifF rfl (hK p l c h2 B S2)
end
end Go.Proofs.Ytpfnfmlibpoleaa.Pr
