/- Tables are written: each function's contract. -/
import Derived.Test.YtpfnfmlibpoleaaTabP
import Derived.Test.YtpfnfmlibpoleaaPrTabl
set_option linter.unusedVariables false
set_option linter.unusedSimpArgs false
namespace Go.Proofs.Ytpfnfmlibpoleaa.Pr
open Go Go.Lift Go.Proofs

theorem kS : KeyL P T.string (fun s : Oct => Value.string (mkS s)) := KeyL.str (by kernel_rfl)
theorem u_msi : P.underlying T.map_string_int = some (.map T.string T.int) := by kernel_rfl
theorem z_int : (P.info? T.int).bind (·.zero) = some (.int .i64 0) := by kernel_rfl
abbrev SI (m : Nat) (kvs : List (Oct × Int)) : Asr := Mq (fun s : Oct => Value.string (mkS s)) (fun n : Int => .int .i64 n) m kvs

section
variable {K : KT} {L R : List Asr} {h : Heap}

theorem lookSI {m : Nat} {kvs : List (Oct × Int)} {k : Oct} (S : St L h) [Has (SI m) L kvs R] (hK : K (.int .i64 ((get? kvs k).getD 0)) h) : SemH P (Instr.lookup T.map_string_int (.map (some m)) (.string (mkS k)) false) K h := by
  refine (S.get (SI m)).lookup (k := k) kS u_msi z_int ?_
  cases e : get? kvs k <;> rw [e] at hK <;> exact hK
theorem updSI {m : Nat} {kvs : List (Oct × Int)} {k : Oct} {v : Int} (S : St L h) [Has (SI m) L kvs R] (hK : ∀ u h', St (SI m (upd kvs k v) :: R) h' → K u h') : SemH P (unit (Instr.mapUpdate T.map_string_int (.map (some m)) (.string (mkS k)) (.int .i64 v))) K h :=
  (S.get (SI m)).update (k := k) (v := v) kS u_msi hK

/-- The contract of rows, so deep. -/
def RowsC (d : Nat) : Prop := ∀ {K : KT} {L : List Asr} {h : Heap} {B : Nat → Prop} {t : SV} {fs : List PF} (S : St L h) [In (Tb B t) L fs] (hs : smallP d fs)
  (hK : ∀ p l c h', St (Ow 1 (p, l, c) (u8s ((rowsP d fs).getD [])) :: L) h' → K (.tuple #[.slice p l c, .bool (rowsP d fs).isSome]) h'),
  CallsH P F.tabl_rows [.slice t.1 t.2.1 t.2.2, .int .i64 (9 - (d : Int))] K h

theorem hcell_al {h : Heap} {a : Addr} {k : Nat} (ha : a.block < h.size) (cs : Array Value) (t : TypeId) : hcell (al h cs t) (a.add k) = hcell h (a.add k) := by
  refine hcell_eq ?_
  rw [add_block]
  unfold al
  rw [Array.getElem?_push, if_neg (by omega)]

theorem value_of {d : Nat} (hr : RowsC d) (hd : d ≤ 7) {B : Nat → Prop} {t : SV} {f : PF} (S : St L h) [In (Tb B t) L f.t] (hs : f.s.length < 1099511627776) (hst : smallP d f.t)
    (hK : ∀ bs p l c h', (∀ w, valueP (rowsP d) f = some w → bs = w) → St (Ow 1 (p, l, c) (u8s bs) :: L) h' → K (.tuple #[.slice p l c, .bool (valueP (rowsP d) f).isSome]) h') :
    CallsH P F.tabl_value [.agg (List.toArray (fcells (f, t))), .int .i64 (8 - (d : Int))] K h := by
  have tl := tbLen S (B := B) (s := t)
  refine tabl_value.ok ?_
  unfold tabl_value.p0
  simp only [bd]
  have S1 := S.al (fcells (f, t)) T.api_Field
  generalize al h (fcells (f, t)).toArray T.api_Field = h1 at *
  generalize top h = a at *
  have c1 := S1.rc a 1 rfl
  have c2 := S1.rc a 2 rfl
  have c3 := S1.rc a 3 rfl
  have c4 := S1.rc a 4 rfl
  have ef : (((t.2.1 : Nat) : Int) == 0) = decide (f.t = []) := by
    rw [tl, Bool.eq_iff_iff, beq_iff_eq, decide_eq_true_eq]
    exact ⟨fun e => List.eq_nil_of_length_eq_zero (by omega), fun e => by rw [e]; rfl⟩
  have go : tabl_value.j2 K (8 - (d : Int)) a (decide (f.n = 0 ∧ f.s = [] ∧ f.t = [])) (decide (f.s = [] ∧ f.t = [])) h1 := by
    have ha : a.block < h1.size := (S1.get (Bx a)).blt
    unfold tabl_value.j2
    simp only [bd, rdN c1, rdN c2, rdT c3, rdS c4, hcell_al ha]
    have eb : ∀ n : UInt8, (((f.kind.toNat : Nat) : Int) == (n.toNat : Int)) = decide (f.kind = n) := fun n => by
      rw [Bool.eq_iff_iff, beq_iff_eq, decide_eq_true_eq]
      exact ⟨fun e => UInt8.toNat_inj.1 (by omega), fun e => by rw [e]⟩
    have e116 := eb 116
    have e73 := eb 73
    have e108 := eb 108
    have e83 := eb 83
    have e70 := eb 70
    have e86 := eb 86
    simp only [show ((116 : UInt8).toNat : Int) = 116 from rfl, show ((73 : UInt8).toNat : Int) = 73 from rfl, show ((108 : UInt8).toNat : Int) = 108 from rfl, show ((83 : UInt8).toNat : Int) = 83 from rfl, show ((70 : UInt8).toNat : Int) = 70 from rfl, show ((86 : UInt8).toNat : Int) = 86 from rfl] at e116 e73 e108 e83 e70 e86
    rw [e116, e73, e108, e83, e70, e86]
    unfold valueP at hK
    have close : ∀ (bs : Oct) (p : OA) (l c : Nat) (h' : Heap) (b : Bool) (w : Option Oct), (if b then some bs else none) = w → St (Ow 1 (p, l, c) (u8s bs) :: L) h' →
        (∀ bs p l c h', (∀ w', w = some w' → bs = w') → St (Ow 1 (p, l, c) (u8s bs) :: L) h' → K (.tuple #[.slice p l c, .bool w.isSome]) h') → K (.tuple #[.slice p l c, .bool b]) h' := by
      intro bs p l c h' b w e S' hk
      subst e
      have := hk bs p l c h' (fun w' e => by
        cases b with
        | true => cases e; rfl
        | false => cases e) S'
      cases b <;> exact this
    have slN : ∀ h : Heap, Sl 1 h none 0 (u8s []) := fun h => ⟨rfl, rfl⟩
    by_cases k1 : f.kind = 116
    · refine ifT (by simp [k1]) ?_
      rw [if_pos k1] at hK
      have fin : ∀ b : Bool, b = (decide (f.s = [] ∧ f.t = []) && (f.n == 0 || f.n == 1)) → K (.tuple #[.slice (some (top h1)) 1 1, .bool b]) (al h1 #[.int .u8 (IntKind.u8.wrap f.n)] T.uint8) := by
        intro b hb
        rw [wrap_oct8]
        have S2 := (S1.tl.al [.int .u8 ((oct8 f.n).toNat : Int)] T.uint8).bxOw (n := 1) (sz := 1) rfl
        refine close [oct8 f.n] _ _ _ _ b _ ?_ S2 hK
        subst hb
        simp only [Bool.and_eq_true, Bool.or_eq_true, decide_eq_true_eq, beq_iff_eq, and_assoc]
      cases hb1 : (f.n == 0) <;> cases hb2 : (f.n == 1) <;> cases hb3 : decide (f.s = [] ∧ f.t = []) <;>
        simp only [hb1, hb2, hb3, Bool.false_eq_true, reduceCtorEq, false_imp_iff, true_imp_iff, forall_const, and_true, true_and, and_self] <;>
        exact fin _ (by rw [hb1, hb2, hb3]; rfl)
    refine ifF (by simp [k1]) ?_
    rw [if_neg k1] at hK
    by_cases k2 : f.kind = 73
    · refine ifT (by simp [k2]) ?_
      rw [if_pos k2] at hK
      rw [wrap_nat64]
      refine intS (s := (none, 0, 0)) (n := 4) (bs := []) S1 (slN _) (by simp) (by omega) (by omega) fun p l c h2 S2 => ⟨_, _, _, rfl, ?_⟩
      simp only [rdN (S2.rc a 2 rfl)]
      have fin : ∀ b : Bool, b = (decide (f.s = [] ∧ f.t = []) && (decide (f.n ≥ -2147483648) && decide (f.n ≤ 2147483647))) → K (.tuple #[.slice p l c, .bool b]) h2 := by
        intro b hb
        refine close _ _ _ _ _ b _ ?_ (S2.d1) hK
        subst hb
        simp only [Bool.and_eq_true, decide_eq_true_eq, List.nil_append, and_assoc]
      cases hb1 : decide (f.n ≥ -2147483648) <;> cases hb2 : decide (f.n ≤ 2147483647) <;> cases hb3 : decide (f.s = [] ∧ f.t = []) <;>
        simp only [hb1, hb2, hb3, Bool.false_eq_true, reduceCtorEq, false_imp_iff, true_imp_iff, forall_const, and_true, true_and, and_self] <;>
        exact fin _ (by rw [hb1, hb2, hb3]; rfl)
    refine ifF (by simp [k2]) ?_
    rw [if_neg k2] at hK
    by_cases k3 : f.kind = 108
    · refine ifT (by simp [k3]) ?_
      rw [if_pos k3] at hK
      rw [wrap_nat64]
      refine intS (s := (none, 0, 0)) (n := 8) (bs := []) S1 (slN _) (by simp) (by omega) (by omega) fun p l c h2 S2 => ⟨_, _, _, rfl, ?_⟩
      refine close _ _ _ _ _ _ _ ?_ (S2.d1) hK
      simp only [decide_eq_true_eq, List.nil_append]
    refine ifF (by simp [k3]) ?_
    rw [if_neg k3] at hK
    by_cases k4 : f.kind = 83
    · refine ifT (by simp [k4]) ?_
      rw [if_pos k4] at hK
      have fin : ∀ (p : OA) (l c : Nat) (h' : Heap) (b : Bool), St (Ow 1 (p, l, c) (u8s ([] ++ octsN 4 f.s.length ++ f.s)) :: L) h' → b = ((f.n == 0) && ((((t.2.1 : Nat) : Int) == 0) && decide (((List.length f.s : Nat) : Int) ≤ 2000))) → K (.tuple #[.slice p l c, .bool b]) h' := by
        intro p l c h' b S2 hb
        refine close _ _ _ _ _ b _ ?_ S2 hK
        subst hb
        rw [ef]
        simp only [Bool.and_eq_true, decide_eq_true_eq, beq_iff_eq, List.nil_append]
        congr 3
        exact propext ⟨fun x => by omega, fun x => by omega⟩

      repeat' (first
        | with_reducible refine And.intro ?_ ?_
        | (refine St.bytes u_str u_sl u_u8 S1 fun c h2 S2 => ⟨_, _, _, rfl, ?_⟩
           try simp only [rdN (S2.rc a 2 rfl), rdT (S2.rc a 3 rfl), rdS (S2.rc a 4 rfl)]))
      all_goals
        refine longS (s := (none, 0, 0)) (t := (some (top h1), f.s.length, _)) (bs := []) S2 (slN _) S2.sl (by simp) hs fun p l c h3 S3 => ⟨_, _, _, rfl, ?_⟩
        simp only [rdN (S3.rc a 2 rfl), rdT (S3.rc a 3 rfl), rdS (S3.rc a 4 rfl)]
        cases hb1 : (f.n == 0) <;> cases hb2 : (((t.2.1 : Nat) : Int) == 0) <;> cases hb3 : decide (((List.length f.s : Nat) : Int) ≤ 2000) <;>
          simp only [hb1, hb2, hb3, Bool.false_eq_true, reduceCtorEq, false_imp_iff, true_imp_iff, forall_const, and_true, true_and, and_self] <;>
          exact fin _ _ _ _ _ S3.d1.d1 (by rw [hb1, hb2, hb3]; rfl)
    refine ifF (by simp [k4]) ?_
    rw [if_neg k4] at hK
    by_cases k5 : f.kind = 70
    · refine ifT (by simp [k5]) ?_
      rw [if_pos k5] at hK
      have ed : IntKind.i64.wrap (8 - (d : Int) + 1) = 9 - (d : Int) := by rw [wrapI (by omega) (by omega)]; omega
      rw [ed]
      refine hr (B := B) (fs := f.t) S1 hst fun p l c h2 S2 => ⟨_, _, _, _, rfl, ?_⟩
      have := rowsP_lenD d f.t
      refine longS (s := (none, 0, 0)) (t := (p, l, c)) (bs := []) S2 (slN _) S2.sl (by simp) (by omega) fun p l c h3 S3 => ⟨_, _, _, rfl, ?_⟩
      simp only [rdN (S3.rc a 2 rfl), rdT (S3.rc a 3 rfl)]
      have fin : ∀ b : Bool, b = ((rowsP d f.t).isSome && ((f.n == 0) && (f.s == ([] : List UInt8)))) → K (.tuple #[.slice p l c, .bool b]) h3 := by
        intro b hb
        refine close _ _ _ _ _ b _ ?_ S3.d1.d1 hK
        subst hb
        cases e : rowsP d f.t <;> simp [e]
      cases hb1 : (f.n == 0) <;> cases hb2 : (f.s == ([] : List UInt8)) <;> cases hb3 : (rowsP d f.t).isSome <;>
        simp only [hb1, hb2, hb3, Bool.false_eq_true, reduceCtorEq, false_imp_iff, true_imp_iff, forall_const, and_true, true_and, and_self] <;>
        exact fin _ (by rw [hb1, hb2, hb3]; rfl)
    refine ifF (by simp [k5]) ?_
    rw [if_neg k5] at hK
    by_cases k6 : f.kind = 86
    · refine ifT (by simp [k6]) ?_
      rw [if_pos k6] at hK
      refine close [] _ _ _ _ _ _ ?_ (S1.tl.owNil 1) hK
      simp only [decide_eq_true_eq]
    refine ifF (by simp [k6]) ?_
    rw [if_neg k6] at hK
    exact close [] _ _ _ _ false none rfl (S1.tl.owNil 1) hK
  have go1 : tabl_value.j1 K (8 - (d : Int)) a (decide (f.n = 0 ∧ f.s = [] ∧ f.t = [])) h1 := by
    unfold tabl_value.j1
    simp only [bd, rdT c3, rdS c4]
    by_cases e1 : f.s = []
    · refine ifT (by simp [e1]) ?_
      rw [ef]
      simpa [e1] using go
    · refine ifF (by simp [e1]) ?_
      simpa [e1] using go
  simp only [rdN c2, rdT c3, rdS c4]
  rw [ef]
  by_cases e1 : f.n = 0
  · refine ifT (by simp [e1]) ?_
    by_cases e2 : f.s = []
    · refine ifT (by simp [e2]) ?_
      simpa [e1, e2] using go1
    · refine ifF (by simp [e2]) ?_
      simpa [e2] using go1
  · refine ifF (by simp [e1]) ?_
    simpa [e1] using go1

/-- Names that are told, each once. -/
def ones (l : List Oct) : List (Oct × Int) := l.map fun n => (n, 1)
theorem ones_get (l : List Oct) (n : Oct) : get? (ones l) n = if n ∈ l then some 1 else none := by
  induction l with
  | nil => rfl
  | cons x t ih =>
    unfold ones get? at ih ⊢
    simp only [List.map_cons, fnd]
    by_cases e : n = x
    · simp [e]
    · have a2 := fnd_shift (t.map fun n => (n, (1 : Int))) n 0 1
      simp only [Nat.zero_add] at a2
      rw [if_neg e, a2, Option.map_map]
      simp only [List.mem_cons, e, false_or]
      exact ih
theorem ones_upd {l : List Oct} {n : Oct} (h : n ∉ l) : upd (ones l) n 1 = ones (l ++ [n]) := by
  rw [upd_none (by simpa [ones] using h)]
  simp [ones]

theorem valueP_len {d : Nat} {f : PF} {b : Oct} (h : valueP (rowsP d) f = some b) : b.length ≤ 2004 := by
  unfold valueP at h
  split at h
  · split at h <;> cases h
    simp
  split at h
  · split at h <;> cases h
    simp [octsN_length]
  split at h
  · split at h <;> cases h
    simp [octsN_length]
  split at h
  · split at h <;> cases h
    rename_i x
    simp [octsN_length]
    omega
  split at h
  · cases hr : rowsP d f.t with
    | none => rw [hr] at h; cases h
    | some w =>
      rw [hr] at h
      simp only at h
      have := rowsP_len hr
      split at h <;> cases h
      simp [octsN_length]
      omega
  split at h
  · split at h <;> cases h
    simp
  · cases h

theorem rows_loop {d : Nat} (hr : RowsC d) (hd : d ≤ 7) {B : Nat → Prop} {t : SV} {fs : List PF} {m : Nat} (hlen : fs.length ≤ 2000) (hs : smallP (d + 1) fs) {res : Option Oct}
    (hK : ∀ p l c h', St (Ow 1 (p, l, c) (u8s (res.getD [])) :: L) h' → K (.tuple #[.slice p l c, .bool res.isSome]) h') [hB : In (Tb B t) L fs] :
    ∀ (fuel i : Nat) (s : SV) (seen : List Oct) (out : Oct) (h : Heap), fs.length - i < fuel → i ≤ fs.length → out.length ≤ 2000 → goP (valueP (rowsP d)) (fs.drop i) seen out = res → St (Ow 1 s (u8s out) :: SI m (ones seen) :: L) h →
      tabl_rows.L2 K fuel (8 - (d : Int)) s.1 s.2.1 s.2.2 (some m) t.1 t.2.1 t.2.2 ((t.2.1 : Nat) : Int) i h
  | 0, _, _, _, _, _, hf, _, _, _, _ => absurd hf (Nat.not_lt_zero _)
  | fuel + 1, i, s, seen, out, h, hf, hi, ho, hg, S => by
    unfold tabl_rows.L2
    obtain ⟨ts, t1, t2, t3, t4, t5⟩ := tbAt S (B := B) (s := t) (fs := fs)
    have fail : res = none → ∀ h', St L h' → K (.tuple #[.slice none 0 0, .bool false]) h' := by
      intro e h' S'
      subst e
      exact hK none 0 0 h' (S'.owNil 1)
    by_cases hlt : i < fs.length
    · have hit : i < ts.length := by omega
      have hx : (fs.zip ts)[i]? = some (fs[i], ts[i]) := by rw [List.getElem?_eq_getElem (by rw [List.length_zip]; omega), List.getElem_zip]
      refine ifT (by simp; omega) ?_
      refine ixS fcells_len (by decide) t2 rfl hx ?_
      simp only [bd]
      have ST := t5 i fs[i] ts[i] (List.getElem?_eq_getElem hlt) (List.getElem?_eq_getElem hit)
      generalize hf' : fs[i] = f at *
      have S1 := ST.al [.string (mkS ([] : List UInt8)), .int .u8 0, .int .i64 0, .string (mkS ([] : List UInt8)), .slice none 0 0] T.api_Field
      refine ⟨rfl, S1.putA (top h) rfl (by simp [fcells, one, SV.v]) fun h5 S2 => ?_⟩
      clear S1
      generalize top h = a at *
      simp only [rdT (S2.rc a 0 rfl)]
      have hsf := hs f (by rw [← hf']; exact List.getElem_mem hlt)
      refine lookSI S2 ⟨_, rfl, updSI S2 fun u h6 S3 => ?_⟩
      simp only [rdC' (S3.rall a 5 rfl)]
      refine value_of hr hd (B := B) (t := ts[i]) (f := f) S3 hsf.2.1 hsf.2.2 fun bs p l c h7 hbs S4 => ⟨_, _, _, _, rfl, ?_⟩
      have hdrop : fs.drop i = f :: fs.drop (i + 1) := by rw [← hf']; exact List.drop_eq_getElem_cons hlt
      rw [hdrop] at hg
      unfold goP at hg
      cases hv : valueP (rowsP d) f with
      | none =>
        rw [hv] at hg
        refine ifT' rfl ?_
        unfold tabl_rows.j3
        exact ifT rfl (fail hg.symm h7 S4.to)
      | some b =>
        rw [hv] at hg
        simp only at hg
        obtain rfl : bs = b := hbs b hv
        refine ifF' rfl ?_
        simp only [rdT (S4.rc a 0 rfl)]
        refine lookSI S4 ⟨_, rfl, ?_⟩
        have bad : (f.name ∈ seen ∨ f.name = [] ∨ f.name.length > 128) → tabl_rows.j3 K (tabl_rows.L2 K fuel) (8 - (d : Int)) s.1 s.2.1 s.2.2 (some m) a p l c t.1 t.2.1 t.2.2 ((t.2.1 : Nat) : Int) i true h7 := by
          intro e
          rw [if_pos e] at hg
          unfold tabl_rows.j3
          exact ifT rfl (fail hg.symm h7 S4.to)
        rw [get?_upd, if_pos rfl, ones_get]
        by_cases e1 : f.name ∈ seen
        · rw [if_pos e1]
          exact ifT' rfl (bad (.inl e1))
        · rw [if_neg e1]
          refine ifF' rfl ?_
          simp only [rdT (S4.rc a 0 rfl)]
          by_cases e2 : f.name = []
          · exact ifT' (by simp [e2]) (bad (.inr (.inl e2)))
          · refine ifF' (by simp [e2]) ?_
            by_cases e3 : f.name.length > 128
            · rw [decide_eq_true (by omega)]
              exact bad (.inr (.inr e3))
            · rw [decide_eq_false (by omega)]
              rw [if_neg (by simp [e1, e2]; omega)] at hg
              have hbl := valueP_len hv
              have e8 : IntKind.u8.wrap ((f.name.length : Nat) : Int) = (((UInt8.ofNat f.name.length).toNat : Nat) : Int) := by
                rw [IntKind.wrap_u8', UInt8.toNat_ofNat']; omega
              unfold tabl_rows.j3
              refine ifF rfl ?_
              simp only [rdT (S4.rc a 0 rfl), rdN (S4.rc a 1 rfl), bd]
              rw [e8]
              have S5 := S4.al (u8s [UInt8.ofNat f.name.length]) T.uint8
              refine appS (s := s) S5 (Src.slice (p := some (top h7)) (n := 1) ⟨rfl, (S5.get (Bx (top h7))).mem.1⟩ (u8s_one _)) (by simp; omega) fun p1 l1 c1 h8 S6 => ⟨_, _, _, rfl, ?_⟩
              simp only [rdT (S6.rc a 0 rfl)]
              refine appsS (s := (p1, l1, c1)) S6 (by simp; omega) fun p2 l2 c2 h9 S7 => ⟨_, _, _, rfl, ?_⟩
              simp only [rdN (S7.rc a 1 rfl)]
              have S8 := S7.al (u8s [f.kind]) T.uint8
              refine appS (s := (p2, l2, c2)) S8 (Src.slice (p := some (top h9)) (n := 1) ⟨rfl, (S8.get (Bx (top h9))).mem.1⟩ (u8s_one _)) (by simp; omega) fun p3 l3 c3 h10 S9 => ⟨_, _, _, rfl, ?_⟩
              have sb := S9.osl 1 (p, l, c)
              refine appS (s := (p3, l3, c3)) S9 (Src.slice sb (u8s_one _)) (by simp; omega) fun p4 l4 c4 h11 S10 => ⟨_, _, _, rfl, ?_⟩
              have eo : out ++ [UInt8.ofNat f.name.length] ++ f.name ++ [f.kind] ++ bs = out ++ (UInt8.ofNat f.name.length :: f.name ++ f.kind :: bs) := by simp
              rw [eo] at S10
              generalize out ++ (UInt8.ofNat f.name.length :: f.name ++ f.kind :: bs) = out' at *
              have hl4 := S10.ow.1
              simp only [u8s_length, Nat.mul_one] at hl4
              by_cases e4 : out'.length > 2000
              · rw [if_pos e4] at hg
                exact ifT (by simp; omega) (fail hg.symm _ S10.to)
              · rw [if_neg e4] at hg
                refine ifF (by simp; omega) ?_
                rw [wsucc (by omega)]
                have hu : upd (ones seen) f.name (IntKind.i64.wrap ((if f.name ∈ seen then some 1 else none : Option Int).getD 0 + 1)) = ones (seen ++ [f.name]) := by
                  rw [if_neg e1]; exact ones_upd e1
                rw [ones_get, hu] at S10
                exact rows_loop (B := B) hr hd hlen hs hK fuel (i + 1) (p4, l4, c4) (seen ++ [f.name]) out' h11 (by omega) (by omega) (by omega) hg S10.to
    · refine ifF (by simp; omega) ?_
      rw [List.drop_eq_nil_of_le (by omega)] at hg
      cases hg
      exact hK _ _ _ _ S.d1

theorem rows_spec : ∀ d : Nat, d ≤ 8 → RowsC d
  | 0, _ => by
    intro S _ hs hK; rename_i K L h B t fs _ _
    refine tabl_rows.ok ?_
    unfold tabl_rows.p0 tabl_rows.j1
    refine ifT' (by decide) (ifT rfl ?_)
    exact hK none 0 0 h (S.owNil 1)
  | d + 1, hd => by
    intro S _ hs hK; rename_i K L h B t fs _
    have hr : RowsC d := rows_spec d (by omega)
    have tl := tbLen S (B := B) (s := t)
    refine tabl_rows.ok ?_
    unfold tabl_rows.p0 tabl_rows.j1
    have ed : 9 - ((d + 1 : Nat) : Int) = 8 - (d : Int) := by omega
    rw [ed]
    refine ifF' (decide_eq_false (by omega)) ?_
    unfold rowsP at hK
    by_cases hl : fs.length > 2000
    · rw [if_pos hl] at hK
      exact ifT (by simp; omega) (hK none 0 0 h (S.owNil 1))
    · rw [if_neg hl] at hK
      refine ifF (by simp; omega) ?_
      simp only [bd]
      refine ⟨fs.length + 1, rows_loop (B := B) (t := t) hr (by omega) (by omega) hs hK _ 0 (none, 0, 0) [] [] _ (by omega) (by omega) (by simp) rfl ?_⟩
      exact (S.mqNew _ _).owNil 1

/-- A table's octets, from the top. -/
def tableP (fs : List PF) : Option Oct := rowsP 8 fs

theorem rowsS {B : Nat → Prop} {t : SV} {fs : List PF} (S : St L h) [In (Tb B t) L fs] (hs : smallP 8 fs)
    (hK : ∀ p l c h', St (Ow 1 (p, l, c) (u8s ((tableP fs).getD [])) :: L) h' → K (.tuple #[.slice p l c, .bool (tableP fs).isSome]) h') : CallsH P F.tabl_rows [.slice t.1 t.2.1 t.2.2, .int .i64 1] K h :=
  rows_spec 8 (by omega) (B := B) S hs hK

theorem tokS {B : Nat → Prop} {t : SV} {fs : List PF} (S : St L h) [In (Tb B t) L fs] (hs : smallP 8 fs) (hK : ∀ h', St L h' → K (.bool (tableP fs).isSome) h') : CallsH P F.tabl_Ok [.slice t.1 t.2.1 t.2.2] K h := by
  refine tabl_Ok.ok ?_
  unfold tabl_Ok.p0
  exact rowsS (B := B) S hs fun p l c h' S' => ⟨_, _, _, _, rfl, hK h' S'.tl⟩

theorem tappS {B : Nat → Prop} {t s : SV} {fs : List PF} {bs : Oct} (S : St L h) [In (Tb B t) L fs] (sl : Im 1 s (u8s bs) ∈ L) (hs : smallP 8 fs) (hb : bs.length < 1099511627776)
    (hK : ∀ p l c h', St (Ow 1 (p, l, c) (u8s (bs ++ (tableP fs).getD [])) :: L) h' → K (.tuple #[.slice p l c, .bool (tableP fs).isSome]) h') : CallsH P F.tabl_Append [.slice s.1 s.2.1 s.2.2, .slice t.1 t.2.1 t.2.2] K h := by
  refine tabl_Append.ok ?_
  unfold tabl_Append.p0
  refine rowsS (B := B) S hs fun p l c h1 S1 => ⟨_, _, _, _, rfl, ?_⟩
  refine cloneS S1 (S1.tl.iml sl).1 (by omega) fun p2 l2 c2 h2 S2 => ⟨_, _, _, rfl, ?_⟩
  have := rowsP_lenD 8 fs
  refine appS (s := (p2, l2, c2)) S2 (Src.slice (S2.osl 1 (p, l, c)) (u8s_one _)) (by simp only [tableP]; omega) fun p3 l3 c3 h3 S3 => ⟨_, _, _, rfl, hK p3 l3 c3 h3 S3.to⟩
end
end Go.Proofs.Ytpfnfmlibpoleaa.Pr
