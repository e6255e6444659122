/- methTells_holds: all that the theorem needs, in a few texts (bundle.py; made of the texts that NOTES.md names). -/
import Derived.Below
import Derived.KernelRfl
import Derived.Laws.Append
import Derived.Laws.Bits64
import Derived.Laws.BitsAllLaws
import Derived.Laws.BitsLemmas
import Derived.Laws.IdiomStrings
import Derived.Laws.Sem
import Derived.Laws.Strings
import Derived.LoopN
import Derived.MapKept
import Derived.Orders
import Derived.Test.YtjkiaeccjelklaaChecked
import Derived.WideLaws
import Derived.Test.YtjkiaeccjelklaaBMethTellsUpto1
import Derived.Test.YtjkiaeccjelklaaBMethTellsUpto2
import Derived.Test.YtjkiaeccjelklaaBMethTellsUpto3
import Derived.Test.YtjkiaeccjelklaaBMethTellsUpto4
import Derived.Test.YtjkiaeccjelklaaBMethTellsUpto6
import Derived.Test.YtjkiaeccjelklaaBMethTellsUpto7
import Derived.Test.YtjkiaeccjelklaaBMethTellsUpto8
import Derived.Test.YtjkiaeccjelklaaBMethTellsUpto9
section
set_option linter.unusedVariables false
set_option linter.unusedSimpArgs false
namespace Go.Proofs.Ytjkiaeccjelklaa.Pr
open Go Go.Lift Go.Proofs
theorem textAt_meas {bs : Oct} {a n : Nat} (ha : a ≤ bs.length) : (textAt bs a n = none → measP n (bs.drop a, false) = ([], [], true)) ∧ ∀ t e, textAt bs a n = some (t, e) → measP n (bs.drop a, false) = (t, bs.drop e, false) ∧ a + n ≤ e ∧ e ≤ bs.length := by
  unfold textAt numAt measP
  simp only [List.length_drop, Bool.false_eq_true, false_or]
  by_cases h1 : a + n ≤ bs.length
  · rw [if_pos h1, if_neg (by omega)]
    simp only
    by_cases h2 : a + n + numN ((bs.drop a).take n) ≤ bs.length
    · rw [if_pos h2, if_neg (by omega)]
      refine ⟨fun e => (by cases e), fun t e he => ?_⟩
      simp only [Option.some.injEq, Prod.mk.injEq] at he
      obtain ⟨rfl, rfl⟩ := he
      rw [List.drop_drop, List.drop_drop]
      exact ⟨rfl, by omega, h2⟩
    · rw [if_neg h2, if_pos (by omega)]
      exact ⟨fun _ => rfl, fun t e he => by cases he⟩
  · rw [if_neg h1, if_pos (by omega)]
    exact ⟨fun _ => rfl, fun t e he => by cases he⟩
theorem numAt_take {bs : Oct} {a n : Nat} (ha : a ≤ bs.length) : (numAt bs a n = none → takeP n (bs.drop a, false) = ([], [], true)) ∧ ∀ v, numAt bs a n = some v → ∃ t, takeP n (bs.drop a, false) = (t, bs.drop (a + n), false) ∧ numN t = v ∧ a + n ≤ bs.length ∧ t.length = n := by
  unfold numAt takeP
  simp only [List.length_drop, Bool.false_eq_true, false_or]
  by_cases h1 : a + n ≤ bs.length
  · rw [if_pos h1, if_neg (by omega)]
    refine ⟨fun e => (by cases e), fun v he => ?_⟩
    simp only [Option.some.injEq] at he
    exact ⟨_, by rw [List.drop_drop], he, h1, by simp; omega⟩
  · rw [if_neg h1, if_pos (by omega)]
    exact ⟨fun _ => rfl, fun t he => by cases he⟩
theorem numN_len (w : Oct) : numN w < 256 ^ w.length := by
  have gen : ∀ (w : Oct) (acc j : Nat), acc < 256 ^ j → w.foldl (fun n b => (n * 256 + b.toNat) % 18446744073709551616) acc < 256 ^ (j + w.length) := by
    intro w
    induction w with
    | nil => intro acc j h; exact h
    | cons b r ih =>
      intro acc j h
      rw [List.foldl_cons, List.length_cons, show j + (r.length + 1) = j + 1 + r.length by omega]
      refine ih _ (j + 1) (Nat.lt_of_le_of_lt (Nat.mod_le _ _) ?_)
      have := b.toNat_lt
      rw [Nat.pow_succ]
      omega
  have := gen w 0 0 (by decide)
  rw [Nat.zero_add] at this
  exact this
theorem loopD_fuel (ps : Oct → Option (List PF)) : ∀ (k k' : Nat) (s : Oct) (out : List PF), s.length < k → s.length < k' → loopD ps k s out = loopD ps k' s out
  | 0, _, _, _, h, _ => absurd h (Nat.not_lt_zero _)
  | _, 0, _, _, _, h => absurd h (Nat.not_lt_zero _)
  | k + 1, k' + 1, s, out, h1, h2 => by
    unfold loopD
    by_cases he : s = []
    · rw [if_pos he, if_pos he]
    · rw [if_neg he, if_neg he]
      have hlt := measP_lt (s := (s, false)) he
      have hk := takeP_le 1 (measP 1 (s, false)).2
      have hrd := readP_le ps (kindP (measP 1 (s, false)).2) (takeP 1 (measP 1 (s, false)).2).2
      simp only
      split
      · rfl
      · split
        · rfl
        · exact loopD_fuel ps k k' _ _ (by simp only at hlt; omega) (by simp only at hlt; omega)
def ReadC (d : Nat) : Prop := ∀ {K : KT} {L : List Asr} {h : Heap} {s : SV} {bs : Oct} (S : St L h) [In (fun b => Im 1 s (u8s b)) L bs] (hb : bs.length ≤ 2000)
  (hK : ∀ p l c h' B, St (Tb B (p, l, c) ((docP d bs).getD []) :: L) h' → K (.tuple #[.slice p l c, .bool (docP d bs).isSome]) h'),
  CallsH P F.qae [.slice s.1 s.2.1 s.2.2, .int .i64 (9 - (d : Int))] K h
section
variable {K : KT} {L R : List Asr} {h : Heap}
theorem octRead {s : SV} {bs : Oct} {e : Nat} {q : Addr} {x : UInt8} (S : St L h) [In (fun b => Im 1 s (u8s b)) L bs] (eq : s.1 = some q) (hx : bs[e]? = some x) {F : Int → Prop} (hF : F (x.toNat : Int)) :
    ∃ n, hcell h (q.add (Int.toNat (e : Int) * 1)) = some (.int .u8 n) ∧ F n := by
  have sl := (isl8 S (s := s) (bs := bs)).1
  have hx' : (u8s bs)[e]? = some (.int .u8 (x.toNat : Int)) := by simp [u8s, hx]
  obtain ⟨a, e1, _, _, c⟩ := ixV (R := fun a => hcell _ (a.add (Int.toNat (e : Int) * 1)) = some (.int .u8 (x.toNat : Int))) sl (i := (e : Int)) (n := e) rfl hx' (fun a _ c => c)
  rw [eq] at e1; cases e1
  exact ⟨_, c, hF⟩
theorem rnumAtS {s : SV} {bs : Oct} {a n : Nat} (S : St L h) [m : In (fun b => Im 1 s (u8s b)) L bs] (hb : bs.length < 1099511627776) (ha : a ≤ bs.length) (hn : n ≤ 8) (hK : K (.tuple #[.int .u64 (((numAt bs a n).getD 0 : Nat) : Int), .bool (numAt bs a n).isSome]) h) :
    CallsH P F.qat [.slice s.1 s.2.1 s.2.2, .int .i64 a, .int .i64 n] K h := refNum.spec (isl8 S).1 hb (by omega) (by omega) (.inl ha) hK
theorem len5 (a b c d e : Value) : ([a, b, c, d, e] : List Value).length = 5 := rfl
theorem u_str8 : P.underlying T.sl_uint8 = some (.slice T.uint8) := by kernel_rfl
theorem u_string : P.underlying T.string = some .string := by kernel_rfl
theorem read_loop {d : Nat} (ih : ReadC d) (hd : d ≤ 7) {s : SV} {bs : Oct} {res : Option (List PF)} [mi : In (fun b => Im 1 s (u8s b)) L bs] (hb : bs.length ≤ 2000)
    (hK : ∀ p l c h' B, St (Tb B (p, l, c) (res.getD []) :: L) h' → K (.tuple #[.slice p l c, .bool res.isSome]) h') :
    ∀ (fuel a : Nat) (o : SV) (out : List PF) (h : Heap), bs.length - a < fuel → a ≤ bs.length → out.length + (bs.length - a) < 1000000 → (∀ k, bs.length - a < k → loopD (docP d) k (bs.drop a) out = res) → St (OwT o out :: L) h →
      qae.L1 K fuel s.1 s.2.1 s.2.2 (8 - (d : Int)) o.1 o.2.1 o.2.2 a h
  | 0, _, _, _, _, hf, _, _, _, _ => absurd hf (Nat.not_lt_zero _)
  | fuel + 1, a, o, out, h, hf, ha, ho, hg, S => by
    have ls : s.2.1 = bs.length := Sl.len (isl8 S (s := s) (bs := bs)).1
    unfold qae.L1
    have fail : res = none → ∀ h', St L h' → K (.tuple #[.slice none 0 0, .bool false]) h' := by
      intro e h' S'
      subst e
      exact hK none 0 0 h' _ (tbNil 0 S')
    by_cases hlt : a < bs.length
    · refine ifT (by simp; omega) ?_
      have he : bs.drop a ≠ [] := by intro e; have := congrArg List.length e; simp at this; omega
      have hstep := hg (bs.length - a + 1) (by omega)
      unfold loopD at hstep
      rw [if_neg he] at hstep
      simp only at hstep
      have tm := textAt_meas (bs := bs) (a := a) (n := 1) (by omega)
      have failJ : res = none → ∀ {q : OA} {m dd : Nat} {e : Int} {h' : Heap}, St L h' → qae.j2 K (qae.L1 K fuel) s.1 s.2.1 s.2.2 (8 - (d : Int)) o.1 o.2.1 o.2.2 q m dd e true h' := by
        intro e q m dd e' h' S'
        unfold qae.j2
        exact ifT rfl (fail e h' S')
      refine rtextS (s := s) (bs := bs) (a := a) (n := 1) S (by omega) (by omega) (by omega) (fun hn => ⟨_, _, _, _, _, rfl, ?_⟩) (fun q m dd t e hs S1 => ⟨_, _, _, _, _, rfl, ?_⟩)
      · have hb1 := tm.1 hn
        refine ifT' rfl (failJ ?_ S.tl)
        rw [← hstep, hb1, if_pos (.inl (by rw [takeP_bad]))]
      · obtain ⟨hm, h1, h2⟩ := tm.2 t e hs
        rw [hm] at hstep
        refine ifF' rfl ?_
        by_cases hel : e < bs.length
        case neg =>
          refine ifT' (by simp; omega) (failJ ?_ S1.tl.tl)
          have : bs.drop e = [] := List.drop_eq_nil_of_le (by omega)
          rw [← hstep, this]
          exact if_pos (.inl rfl)
        refine ifF' (by simp; omega) ?_
        have hx : bs[e]? = some bs[e] := List.getElem?_eq_getElem hel
        have hdr : bs.drop e = bs[e] :: bs.drop (e + 1) := List.drop_eq_getElem_cons hel
        have ht1 : takeP 1 (bs.drop e, false) = ([bs[e]], bs.drop (e + 1), false) := by
          rw [hdr]; exact takeP_app (a := [bs[e]]) rfl
        have hkk : kindP (bs.drop e, false) = bs[e] := by
          unfold kindP
          rw [ht1]
          have : numN [bs[e]] = bs[e].toNat := by simp [numN]
          rw [this]; simp
        rw [ht1, hkk] at hstep
        simp only [Bool.false_eq_true, false_or] at hstep
        generalize hkd : bs[e] = kd at *
        -- what stands in the field is known: it goes behind the others
        have next : ∀ {x : Addr} {n : Int} {str : Oct} {tt : SV} {tfs : List PF} {B : Nat → Prop} {e2 : Nat} {h' : Heap}, e + 1 ≤ e2 → e2 ≤ bs.length → knownK kd → readP (docP d) kd (bs.drop (e + 1), false) = (n, str, tfs, true, bs.drop e2, false) →
            St (Bx x (fbox t kd n str tt) :: Tb B tt tfs :: OwT o out :: L) h' → qae.j5 K (qae.L1 K fuel) s.1 s.2.1 s.2.2 (8 - (d : Int)) o.1 o.2.1 o.2.2 e2 x h' := by
          intro x n str tt tfs B e2 h' he1 he2 kn hr S2
          unfold qae.j5
          refine ⟨_, S2.rall x 5 rfl, _, bld_field _ _ _ _ _, ?_⟩
          simp only [bd]
          have S8 := S2.al (fcells (PF.mk t kd n str tfs, tt)) T.api_Field
          have S9 : St (OwT o out :: Bx (top h') (fcells (PF.mk t kd n str tfs, tt)) :: Tb B tt tfs :: L) _ := S8.to
          refine owtApp S9 (by omega) fun p l c h6 S10 => ⟨_, _, _, rfl, ?_⟩
          rw [if_neg (by simpa using kn), hr] at hstep
          simp only [Bool.true_eq_false, Bool.false_eq_true, or_self, if_false] at hstep
          refine read_loop ih hd hb hK fuel e2 (p, l, c) _ h6 (by omega) he2 (by simp; omega) (fun k hk => ?_) S10
          rw [← hstep]
          exact loopD_fuel _ _ _ _ _ (by simp; omega) (by simp; omega)
        have wrapA : ∀ v : Nat, v ≤ 5000 → IntKind.i64.wrap ((v : Nat) : Int) = (v : Int) := fun v hv => by rw [IntKind.wrap_i64]; omega
        have failS : (readP (docP d) kd (bs.drop (e + 1), false)).2.2.2.1 = false ∨ (readP (docP d) kd (bs.drop (e + 1), false)).2.2.2.2.2 = true → res = none := by
          intro hbad
          rw [← hstep]
          by_cases kn : knownK kd
          · rw [if_neg (by simpa using kn), if_pos hbad]
          · rw [if_pos (by simpa using kn)]
        -- a number
        have num : ∀ {x : Addr} {n : Nat} {h' : Heap}, (n = 1 ∧ kd = 116 ∨ n = 4 ∧ kd = 73 ∨ n = 8 ∧ kd = 108) → St (Bx x (fbox t kd 0 [] (none, 0, 0)) :: OwT o out :: L) h' → qae.j4 K (qae.L1 K fuel) s.1 s.2.1 s.2.2 (8 - (d : Int)) o.1 o.2.1 o.2.2 ((e + 1 : Nat) : Int) x n h' := by
          intro x n h' hn S2
          have n8 : 0 < n ∧ n ≤ 8 := by omega
          unfold qae.j4
          refine ifT (by simp; omega) ?_
          have nt := numAt_take (bs := bs) (a := e + 1) (n := n) (by omega)
          refine rnumAtS (s := s) (bs := bs) (a := e + 1) (n := n) S2 (by omega) (by omega) n8.2 ⟨_, _, rfl, ?_⟩
          cases hna : numAt bs (e + 1) n with
          | none =>
            have hbd := nt.1 hna
            refine ifT rfl (fail (failS (.inr ?_)) h' S2.tl.tl)
            unfold readP
            rcases hn with ⟨rfl, rfl⟩ | ⟨rfl, rfl⟩ | ⟨rfl, rfl⟩ <;> simp [hbd]
          | some v =>
            obtain ⟨w, hw, hv, hle, hwl⟩ := nt.2 v hna
            refine ifF rfl (S2.put1 x 2 (v := .int .i64 (IntKind.i64.wrap (v : Nat))) (by simp) rfl fun h2 S3 => ?_)
            simp only [List.set_cons_succ, List.set_cons_zero, Option.getD_some] at S3
            have S3' : St (Tb (fun _ => False) (none, 0, 0) [] :: Bx x (fbox t kd (IntKind.i64.wrap (v : Nat)) [] (none, 0, 0)) :: OwT o out :: L) h2 := tbNil 0 S3
            have w6 : IntKind.i64.wrap (((e + 1 : Nat) : Int) + (n : Int)) = ((e + 1 + n : Nat) : Int) := by rw [IntKind.wrap_i64]; omega
            rcases hn with ⟨rfl, rfl⟩ | ⟨rfl, rfl⟩ | ⟨rfl, rfl⟩
            · refine ifF rfl ?_
              unfold qae.j6
              refine (bdE _ _).2 ?_
              rw [w6]
              refine next (by omega) hle (by decide) ?_ S3'.p1
              unfold readP
              simp [hw, hv]
            · refine ifT rfl (S3'.put1 x 2 (v := .int .i64 (IntKind.i64.wrap (IntKind.i32.wrap (IntKind.u32.wrap (v : Nat))))) (by simp) rfl fun h3 S4 => ?_)
              simp only [List.set_cons_succ, List.set_cons_zero] at S4
              unfold qae.j6
              refine (bdE _ _).2 ?_
              rw [w6]
              have v32 : v < 4294967296 := by
                have := numN_len w
                rw [hwl, hv] at this
                exact this
              have e32 : IntKind.u32.wrap ((v : Nat) : Int) = (v : Int) := by rw [IntKind.wrap_u32']; omega
              rw [e32] at S4
              refine next (by omega) hle (by decide) ?_ (show St (Bx x (fbox t 73 (IntKind.i64.wrap (IntKind.i32.wrap ((v : Nat) : Int))) [] (none, 0, 0)) :: _) h3 from S4)
              unfold readP
              simp [hw, hv]
            · refine ifF rfl ?_
              unfold qae.j6
              refine (bdE _ _).2 ?_
              rw [w6]
              refine next (by omega) hle (by decide) ?_ S3'.p1
              unfold readP
              simp [hw, hv]
        -- a text, or a table
        have long : ∀ {x : Addr} {c1 : Int} {h' : Heap}, (kd = 83 ∨ kd = 70) → St (Bx x (fbox t kd 0 [] (none, 0, 0)) :: OwT o out :: L) h' → qae.j7 K (qae.L1 K fuel) s.1 s.2.1 s.2.2 (8 - (d : Int)) o.1 o.2.1 o.2.2 ((e + 1 : Nat) : Int) x 0 c1 true h' := by
          intro x c1 h' hk S2
          unfold qae.j7
          refine ifT rfl ?_
          have tm4 := textAt_meas (bs := bs) (a := e + 1) (n := 4) (by omega)
          refine rtextS (s := s) (bs := bs) (a := e + 1) (n := 4) S2 (by omega) (by omega) (by omega) (fun hn => ⟨_, _, _, _, _, rfl, ?_⟩) (fun q2 m2 d2 t2 e2 hs2 S3 => ⟨_, _, _, _, _, rfl, ?_⟩)
          · have hbd := tm4.1 hn
            refine ifT rfl (fail (failS (.inr ?_)) h' S2.tl.tl)
            unfold readP
            rcases hk with rfl | rfl <;> simp [hbd]
          · obtain ⟨hm2, h12, h22⟩ := tm4.2 t2 e2 hs2
            refine ifF rfl ?_
            simp only [rdN (S3.rc x 1 rfl)]
            have four : ∀ {y : Addr} {n : Int} {str : Oct} {tt : SV} {tfs : List PF} {B : Nat → Prop} {h' : Heap}, readP (docP d) kd (bs.drop (e + 1), false) = (n, str, tfs, true, bs.drop e2, false) → St (Bx y (fbox t kd n str tt) :: Tb B tt tfs :: OwT o out :: L) h' →
                qae.j4 K (qae.L1 K fuel) s.1 s.2.1 s.2.2 (8 - (d : Int)) o.1 o.2.1 o.2.2 (e2 : Int) y 0 h' := by
              intro y n str tt tfs B h' hr S'
              unfold qae.j4
              refine ifF rfl (next (by omega) h22 (by rcases hk with rfl | rfl <;> decide) hr S')
            have hlt2 : t2.length ≤ bs.length := by
              have := measP_le 4 (bs.drop (e + 1), false)
              rw [hm2] at this
              simp only [List.length_drop] at this
              omega
            rcases hk with rfl | rfl
            · refine ifT rfl (str_ok u_str8 u_u8 u_string (isl8 S3 (s := (q2, m2, d2)) (bs := t2)).1 ⟨_, rfl, S3.put1 x 3 (v := .string (mkS t2)) (by simp) rfl fun h3 S4 => ?_⟩)
              simp only [List.set_cons_succ, List.set_cons_zero] at S4
              have S5 : St (Tb (fun _ => False) (none, 0, 0) [] :: Bx x (fbox t 83 0 t2 (none, 0, 0)) :: Im 1 (q2, m2, d2) (u8s t2) :: OwT o out :: L) h3 := tbNil 0 S4
              refine four ?_ (S5.to : St (Bx x (fbox t 83 0 t2 (none, 0, 0)) :: Tb (fun _ => False) (none, 0, 0) [] :: OwT o out :: L) h3)
              unfold readP
              simp [hm2]
            · refine ifF rfl ?_
              rw [show IntKind.i64.wrap (8 - (d : Int) + 1) = 9 - (d : Int) by rw [IntKind.wrap_i64]; omega]
              have r70 : readP (docP d) 70 (bs.drop (e + 1), false) = (0, [], (docP d t2).getD [], (docP d t2).isSome, bs.drop e2, false) := by
                unfold readP
                simp [hm2]
              refine ih (s := (q2, m2, d2)) (bs := t2) S3 (by omega) fun p l c h3 B S4 => ⟨_, _, _, _, rfl, S4.put1 x 4 (v := .slice p l c) (by simp) rfl fun h4 S5 => ?_⟩
              simp only [List.set_cons_succ, List.set_cons_zero] at S5
              cases hdp : docP d t2 with
              | none =>
                refine ifT rfl (fail (failS (.inl ?_)) h4 S5.to)
                rw [r70, hdp]; rfl
              | some tfs =>
                rw [hdp] at S5 r70
                refine ifF rfl (four (tt := (p, l, c)) (B := B) r70 ?_)
                have S6 : St (Bx x (fbox t 70 0 [] (p, l, c)) :: Tb B (p, l, c) tfs :: Im 1 (q2, m2, d2) (u8s t2) :: OwT o out :: L) h4 := S5
                have S7 : St (Bx x (fbox t 70 0 [] (p, l, c)) :: Tb B (p, l, c) tfs :: OwT o out :: L) h4 := S6.to
                exact S7
        have fin : ∀ {x : Addr} {h' : Heap}, St (Bx x (fbox t kd 0 [] (none, 0, 0)) :: Im 1 (q, m, dd) (u8s t) :: OwT o out :: L) h' → qae.j3 K (qae.L1 K fuel) s.1 s.2.1 s.2.2 (8 - (d : Int)) o.1 o.2.1 o.2.2 (e : Int) x h' := by
          intro x h' S2
          have S3 : St (Bx x (fbox t kd 0 [] (none, 0, 0)) :: OwT o out :: L) h' := S2.to
          unfold qae.j3
          refine (bdE _ _).2 ?_
          rw [show IntKind.i64.wrap ((e : Int) + 1) = ((e + 1 : Nat) : Int) by rw [IntKind.wrap_i64]; omega]
          simp only [rdN (S3.rc x 1 rfl), bd]
          have k116 := eb8 kd 116
          have k73 := eb8 kd 73
          have k108 := eb8 kd 108
          have k83 := eb8 kd 83
          have k70 := eb8 kd 70
          have k86 := eb8 kd 86
          simp only [show ((116 : UInt8).toNat : Int) = 116 from rfl, show ((73 : UInt8).toNat : Int) = 73 from rfl, show ((108 : UInt8).toNat : Int) = 108 from rfl, show ((83 : UInt8).toNat : Int) = 83 from rfl, show ((70 : UInt8).toNat : Int) = 70 from rfl, show ((86 : UInt8).toNat : Int) = 86 from rfl] at k116 k73 k108 k83 k70 k86
          rw [k116, k73, k108, k83, k70]
          by_cases c1 : kd = 116
          · exact ifT (by simp [c1]) (num (.inl ⟨rfl, c1⟩) S3)
          refine ifF (by simp [c1]) ?_
          by_cases c2 : kd = 73
          · exact ifT (by simp [c2]) (num (.inr (.inl ⟨rfl, c2⟩)) S3)
          refine ifF (by simp [c2]) ?_
          by_cases c3 : kd = 108
          · exact ifT (by simp [c3]) (num (.inr (.inr ⟨rfl, c3⟩)) S3)
          refine ifF (by simp [c3]) ?_
          by_cases c4 : kd = 83
          · refine ifT (by simp [c4]) ?_
            rw [decide_eq_true c4]
            exact long (.inl c4) S3
          refine ifF (by simp [c4]) ?_
          by_cases c5 : kd = 70
          · rw [decide_eq_true c5]
            exact long (.inr c5) S3
          rw [decide_eq_false c5]
          unfold qae.j7
          refine ifF rfl ((bdE _ _).2 ?_)
          rw [k86]
          by_cases c6 : kd = 86
          · refine ifT (by simp [c6]) ?_
            unfold qae.j4
            have S4 : St (Tb (fun _ => False) (none, 0, 0) [] :: Bx x (fbox t kd 0 [] (none, 0, 0)) :: OwT o out :: L) h' := tbNil 0 S3
            refine ifF rfl (next (Nat.le_refl _) (by omega) (by rw [c6]; decide) ?_ S4.p1)
            unfold readP
            simp [c1, c2, c3, c4, c5]
          · refine ifF (by simp [c6]) (fail ?_ h' S3.tl.tl)
            rw [← hstep, if_pos]
            rintro (a | a | a | a | a | a)
            · exact c1 a
            · exact c2 a
            · exact c3 a
            · exact c4 a
            · exact c5 a
            · exact c6 a
        unfold qae.j2
        refine ifF (by simp; omega) ?_
        refine ixV (i := (e : Int)) (n := e) (isl8 S1 (s := s) (bs := bs)).1 rfl (w := .int .u8 (kd.toNat : Int)) (by simp [u8s, hx]) fun qq eq cq => ?_
        repeat' first
          | with_reducible exact fin S1
          | with_reducible refine And.intro (len5 _ _ _ _ _) ?_
          | with_reducible refine And.intro ?_ ?_
          | with_reducible refine St.bd1' S1 fz fun S1 => ?_
          | with_reducible refine octRead (bs := bs) S1 eq hx ?_
          | with_reducible refine str_ok u_str8 u_u8 u_string (isl8 S1 (s := (q, m, dd)) (bs := t)).1 ⟨_, rfl, ?_⟩
          | with_reducible refine St.putA S1 _ (by simp) (by simp [one]) fun _ S1 => ?_
    · refine ifF (by simp; omega) ?_
      have := hg (bs.length - a + 1) (by omega)
      have e0 : bs.drop a = [] := List.drop_eq_nil_of_le (by omega)
      unfold loopD at this
      rw [if_pos e0] at this
      obtain ⟨B, S'⟩ := owtTb S
      subst this
      have S2 : St (Tb B o out :: L) h := S'.to
      exact hK o.1 o.2.1 o.2.2 h B S2
theorem read_spec : ∀ d : Nat, d ≤ 8 → ReadC d
  | 0, _ => by
    intro S _ hb hK; rename_i K L h s bs _ _
    have ls : s.2.1 = bs.length := Sl.len (isl8 S (s := s) (bs := bs)).1
    refine qae.ok ?_
    unfold qae.p0
    refine ⟨1, ?_⟩
    unfold qae.L1
    unfold docP at hK
    by_cases h0 : bs = []
    · rw [if_pos h0] at hK
      refine ifF (by rw [ls, h0]; simp) ?_
      exact hK none 0 0 h _ (tbNil 0 S)
    · rw [if_neg h0] at hK
      have hpos := List.length_pos_iff.2 h0
      refine ifT (by simp; omega) ?_
      have failJ : ∀ {q : OA} {m dd : Nat} {e : Int} {h' : Heap}, St L h' → qae.j2 K (qae.L1 K 0) s.1 s.2.1 s.2.2 9 none 0 0 q m dd e true h' := by
        intro q m dd e' h' S'
        unfold qae.j2
        exact ifT rfl (hK none 0 0 h' _ (tbNil 0 S'))
      refine rtextS (s := s) (bs := bs) (a := 0) (n := 1) S (by omega) (by omega) (by omega) (fun hn => ⟨_, _, _, _, _, rfl, ?_⟩) (fun q m dd t e hs S1 => ⟨_, _, _, _, _, rfl, ?_⟩)
      · exact ifT' rfl (failJ S)
      · refine ifF' rfl ⟨fun _ => ?_, fun _ => failJ S1.tl⟩
        exact failJ S1.tl
  | d + 1, hd => by
    intro S _ hb hK; rename_i K L h s bs _
    have ih : ReadC d := read_spec d (by omega)
    refine qae.ok ?_
    unfold qae.p0
    rw [show (9 : Int) - ((d + 1 : Nat) : Int) = 8 - (d : Int) by omega]
    refine ⟨bs.length + 1, ?_⟩
    exact read_loop (s := s) (bs := bs) ih (by omega) hb hK _ 0 (none, 0, 0) [] h (by omega) (by omega) (by simp; omega) (fun k hk => loopD_fuel _ _ _ _ _ (by simpa using hk) (by simp)) (owtNil S)
theorem wtD_app (d : Nat) (l r : List PF) : wtD d (l ++ r) = wtD d l + wtD d r := by
  cases d with
  | zero => rfl
  | succ d => unfold wtD; simp
theorem readP_wt {ps : Oct → Option (List PF)} {e : Nat} (hp : ∀ b t, ps b = some t → wtD e t ≤ b.length) (k : UInt8) (s : Oct) : (readP ps k (s, false)).2.1.length + wtD e (readP ps k (s, false)).2.2.1 + (readP ps k (s, false)).2.2.2.2.1.length ≤ s.length := by
  have w0 : wtD e [] = 0 := by cases e <;> rfl
  have t1 := (takeP_le 1 (s, false)).2
  have t4 := (takeP_le 4 (s, false)).2
  have t8 := (takeP_le 8 (s, false)).2
  have m4 : (measP 4 (s, false)).1.length + (measP 4 (s, false)).2.1.length ≤ s.length := by
    unfold measP
    split
    · simp
    · split
      · simp
      · simp; omega
  have mp : wtD e ((ps (measP 4 (s, false)).1).getD []) ≤ (measP 4 (s, false)).1.length := by
    cases h : ps (measP 4 (s, false)).1 with
    | none => rw [Option.getD_none, w0]; exact Nat.zero_le _
    | some t => exact hp _ _ h
  unfold readP
  repeat' split
  all_goals simp only [w0, List.length_nil] at *
  all_goals omega
theorem loopD_wt {ps : Oct → Option (List PF)} {e : Nat} (hp : ∀ b t, ps b = some t → wtD e t ≤ b.length) : ∀ (k : Nat) (s : Oct) (out l : List PF), loopD ps k s out = some l → wtD (e + 1) l ≤ wtD (e + 1) out + s.length
  | 0, _, _, _, h => by unfold loopD at h; cases h
  | k + 1, s, out, l, h => by
    unfold loopD at h
    split at h
    · cases h; omega
    · rename_i s0
      simp only at h
      have hlt := measP_lt (s := (s, false)) s0
      have m1 : (measP 1 (s, false)).1.length + (measP 1 (s, false)).2.1.length + 1 ≤ s.length := by
        have := List.length_pos_iff.2 s0
        unfold measP
        split
        · simp; omega
        · split
          · simp; omega
          · simp; omega
      generalize measP 1 (s, false) = A at *
      obtain ⟨a, s1⟩ := A
      simp only at h m1
      have l2 := (takeP_le 1 s1).2
      generalize hB : takeP 1 s1 = B at *
      obtain ⟨b, s2, bad⟩ := B
      simp only at h l2
      split at h
      · cases h
      · rename_i c
        simp only [not_or, Bool.not_eq_true, Decidable.not_not] at c
        obtain ⟨rfl, _⟩ := c
        split at h
        · cases h
        · have r := readP_wt hp (kindP s1) s2
          have := loopD_wt hp k _ _ _ h
          rw [wtD_app] at this
          have e1 : wtD (e + 1) [PF.mk a (kindP s1) (readP ps (kindP s1) (s2, false)).1 (readP ps (kindP s1) (s2, false)).2.1 (readP ps (kindP s1) (s2, false)).2.2.1] = 1 + a.length + (readP ps (kindP s1) (s2, false)).2.1.length + wtD e (readP ps (kindP s1) (s2, false)).2.2.1 := by
            show ([_].map _).sum = _
            simp [PF.name, PF.s, PF.t]
          rw [e1] at this
          omega
theorem docP_wt : ∀ (d e : Nat) (b : Oct) (l : List PF), docP d b = some l → wtD e l ≤ b.length
  | _, 0, _, _, _ => Nat.zero_le _
  | 0, e + 1, b, l, h => by
    unfold docP at h
    split at h
    · cases h; exact Nat.zero_le _
    · cases h
  | d + 1, e + 1, b, l, h => by
    unfold docP at h
    have := loopD_wt (fun b t => docP_wt d e b t) _ _ _ _ h
    have w0 : wtD (e + 1) [] = 0 := rfl
    omega
theorem rreadTS {s : SV} {bs : Oct} (S : St L h) [In (fun b => Im 1 s (u8s b)) L bs]
    (hK : ∀ p l c h' B, St (Tb B (p, l, c) ((tparseP bs).getD []) :: L) h' → K (.tuple #[.slice p l c, .bool (tparseP bs).isSome]) h') : CallsH P F.qbj [.slice s.1 s.2.1 s.2.2] K h := by
  have ls : s.2.1 = bs.length := Sl.len (isl8 S (s := s) (bs := bs)).1
  rw [← tdoc_eq] at hK
  unfold tdocP at hK
  refine qbj.ok ?_
  unfold qbj.p0
  by_cases hb : bs.length > 2000
  · rw [if_pos hb] at hK
    exact ifT (by simp; omega) (hK none 0 0 h _ (tbNil 0 S))
  · rw [if_neg hb] at hK
    refine ifF (by simp; omega) ?_
    refine read_spec 8 (by omega) (s := s) (bs := bs) S (by omega) fun p l c h1 B S1 => ⟨_, _, _, _, rfl, ?_⟩
    cases hd : docP 8 bs with
    | none =>
      rw [hd] at hK
      exact ifT' rfl (ifT rfl (hK none 0 0 h1 _ (tbNil 0 S1.tl)))
    | some fs =>
      rw [hd] at hK S1
      have S2 : St (Tb B (p, l, c) fs :: L) h1 := S1
      refine ifF' rfl ?_
      refine rtokS (B := B) (s := (p, l, c)) (fs := fs) S2 (by have := docP_wt 8 8 bs fs hd; omega) fun h2 S3 => ⟨_, rfl, ?_⟩
      simp only at hK
      by_cases ok : tableOkP fs = true
      · rw [if_pos ok] at hK
        rw [ok]
        exact ifF rfl (hK p l c h2 B S3)
      · rw [if_neg ok] at hK
        rw [Bool.not_eq_true] at ok
        rw [ok]
        exact ifT rfl (hK none 0 0 h2 _ (tbNil 0 S3.tl))
end
end Go.Proofs.Ytjkiaeccjelklaa.Pr
end
section
set_option linter.unusedVariables false
set_option linter.unusedSimpArgs false
namespace Go.Proofs.Ytjkiaeccjelklaa.Pr
open Go Go.Lift Go.Proofs
def digitD (c : UInt8) : Prop := c = 49 ∨ c = 50 ∨ c = 52 ∨ c = 56
theorem digit_nat {c : UInt8} (h : digitD c) : c.toNat = 49 ∨ c.toNat = 50 ∨ c.toNat = 52 ∨ c.toNat = 56 := by
  rcases h with rfl | rfl | rfl | rfl <;> decide
theorem letterD.digit {c : UInt8} (h : letterD c) (h1 : ¬ c = 115) (h2 : ¬ c = 108) (h3 : ¬ c = 116) (h4 : ¬ c = 102) : digitD c := by
  rcases h with h | h | h | h | h
  · exact absurd h h4
  · exact absurd h h1
  · exact absurd h h2
  · exact absurd h h3
  · exact h
theorem sizeS {K : KT} {h : Heap} {c : UInt8} (hc : digitD c) (hK : K (.int .i64 ((c.toNat - 48 : Nat) : Int)) h) : CallsH P F.qaw [.int .u8 (c.toNat : Int)] K h := by
  refine qaw.ok ?_
  unfold qaw.p0
  have hn := digit_nat hc
  have j1 : qaw.j1 K (c.toNat : Int) true h := by
    unfold qaw.j1
    refine ifT rfl ?_
    simp only [bd]
    have ew : IntKind.i64.wrap (IntKind.u8.wrap ((c.toNat : Int) - 48)) = ((c.toNat - 48 : Nat) : Int) := by
      rw [IntKind.wrap_u8', wrapI (by omega) (by omega)]; omega
    rw [ew]
    exact hK
  by_cases h1 : c.toNat = 49
  · exact ifT' (by simp [h1]) j1
  refine ifF' (by simp; omega) ?_
  by_cases h2 : c.toNat = 50
  · exact ifT' (by simp [h2]) j1
  refine ifF' (by simp; omega) ?_
  by_cases h3 : c.toNat = 52
  · exact ifT' (by simp [h3]) j1
  refine ifF' (by simp; omega) ?_
  have h4 : c.toNat = 56 := by omega
  rw [show (((c.toNat : Nat) : Int) == 56) = true by simp [h4]]
  exact j1
theorem flagsP_in : ∀ (f : Oct) (k : Nat), k < flagsP f → f[k]? = some 102
  | [], k, h => by simp [flagsP] at h
  | c :: r, k, h => by
    unfold flagsP at h
    split at h
    · rename_i e
      cases k with
      | zero => simp [e]
      | succ k => simpa using flagsP_in r k (by omega)
    · omega
theorem flagsP_out : ∀ (f : Oct), f[flagsP f]? ≠ some 102
  | [] => by simp [flagsP]
  | c :: r => by
    unfold flagsP
    split
    · simpa using flagsP_out r
    · rename_i e
      simpa using e
theorem orLast_eq {o : Oct} (h : o ≠ []) (v : UInt8) : orLast o v = o.take (o.length - 1) ++ [o.getD (o.length - 1) 0 ||| v] := by
  unfold orLast
  have hl := List.length_pos_iff.2 h
  apply List.ext_getElem?
  intro i
  rw [List.getElem?_set, List.getElem?_append]
  simp only [List.length_take]
  by_cases h1 : o.length - 1 = i
  · subst h1
    rw [if_pos rfl, if_pos (by omega), if_neg (by omega), show o.length - 1 - min (o.length - 1) o.length = 0 by omega]
    rfl
  · rw [if_neg h1]
    by_cases h2 : i < o.length - 1
    · rw [if_pos (by omega), List.getElem?_take, if_pos h2]
    · rw [if_neg (by omega), List.getElem?_eq_none (by omega), List.getElem?_eq_none (by simp; omega)]
theorem m7n (k : Nat) : bitsI .and .i64 (k : Int) 7 = ((k % 8 : Nat) : Int) := by rw [m7]; omega
section
variable {K : KT} {L R : List Asr} {h : Heap}
theorem rflags_loop {y : SV} {F : List Bool} {from' at' n : Nat} {f : Oct} {res : Oct} (hn : n = flagsP (f.drop at')) (hF : from' + n ≤ F.length) (hl : f.length < 1000000) (ha : at' ≤ f.length) (hfr : from' < 1000000) [In (Im 1 y) L (bools F)]
    (hK : ∀ p l c h', St (Ow 1 (p, l, c) (u8s res) :: L) h' → K (.slice p l c) h') :
    ∀ (fuel k : Nat) (o : SV) (out : Oct) (h : Heap), n - k < fuel → k ≤ n → out.length ≤ k → (k % 8 ≠ 0 → out ≠ []) → packGo (((F.drop from').take n).drop k) k out = res → St (Ow 1 o (u8s out) :: L) h →
      qak.L1 K fuel y.1 y.2.1 y.2.2 from' f at' o.1 o.2.1 o.2.2 k h
  | 0, _, _, _, _, hf, _, _, _, _, _ => absurd hf (Nat.not_lt_zero _)
  | fuel + 1, k, o, out, h, hf, hk, ho, hne, hg, S => by
    unfold qak.L1
    have hnl : n ≤ f.length - at' := by rw [hn]; have := flagsP_le (f.drop at'); simp at this; exact this
    have ew : IntKind.i64.wrap ((at' : Int) + (k : Int)) = ((at' + k : Nat) : Int) := by rw [wrapI (by omega) (by omega)]; omega
    have ewf : IntKind.i64.wrap ((from' : Int) + (k : Int)) = ((from' + k : Nat) : Int) := by rw [wrapI (by omega) (by omega)]; omega
    rw [ew]
    have stop : k = n → qak.j2 K (qak.L1 K fuel) y.1 y.2.1 y.2.2 from' f at' o.1 o.2.1 o.2.2 k false h := by
      intro e
      unfold qak.j2
      refine ifF rfl (hK _ _ _ h ?_)
      rw [List.drop_eq_nil_of_le (by simp; omega)] at hg
      unfold packGo at hg
      subst hg
      exact S
    by_cases hkn : k < n
    · have h102 := flagsP_in (f.drop at') k (by omega)
      rw [List.getElem?_drop] at h102
      have hlt : at' + k < f.length := by omega
      rw [List.getElem?_eq_getElem hlt, Option.some.injEq] at h102
      have el : (lb f ((at' + k : Nat) : Int) == 102) = true := by
        have := lbq hlt 102
        rw [show ((102 : UInt8).toNat : Int) = 102 from rfl] at this
        rw [this, h102]; rfl
      refine ifT (by simp; omega) ⟨by omega, by omega, ?_⟩
      rw [el]
      have hfl : ((F.drop from').take n).drop k = F[from' + k]'(by omega) :: ((F.drop from').take n).drop (k + 1) := by
        rw [List.drop_eq_getElem_cons (by simp; omega)]
        simp
      rw [hfl] at hg
      unfold packGo at hg
      have next : ∀ p l c o2 h', o2.length ≤ k + 1 → o2 ≠ [] → packGo (((F.drop from').take n).drop (k + 1)) (k + 1) o2 = res → St (Ow 1 (p, l, c) (u8s o2) :: L) h' → qak.j3 K (qak.L1 K fuel) y.1 y.2.1 y.2.2 from' f at' p l c k h' := by
        intro p l c o2 h' h1 h2 h3 S'
        unfold qak.j3
        simp only [bd]
        rw [wsucc (by omega)]
        exact rflags_loop hn hF hl ha hfr hK fuel (k + 1) (p, l, c) o2 h' (by omega) (by omega) h1 (fun _ => h2) h3 S'
      have j4 : ∀ (o : SV) (o2 : Oct) (h' : Heap), o2.length ≤ k + 1 → o2 ≠ [] → packGo (((F.drop from').take n).drop (k + 1)) (k + 1) (if F[from' + k]'(by omega) then orLast o2 (bitO (k % 8)) else o2) = res → St (Ow 1 o (u8s o2) :: L) h' → qak.j4 K (qak.L1 K fuel) y.1 y.2.1 y.2.2 from' f at' o.1 o.2.1 o.2.2 k h' := by
        intro o o2 h' h1 h2 h3 S'
        unfold qak.j4
        rw [ewf]
        have lp := List.length_pos_iff.2 h2
        have lo : o.2.1 = o2.length := by have := Sl.len S'.sl; omega
        refine ixV (i := ((from' + k : Nat) : Int)) (n := from' + k) (w := .bool (F[from' + k]'(by omega))) (S'.isl 1 y) rfl (by simp only [bools, List.getElem?_map, List.getElem?_eq_getElem (show from' + k < F.length by omega), Option.map_some]) fun q eq cq => ?_
        simp only [rdB cq]
        cases hb : F[from' + k]'(by omega) with
        | false =>
          rw [hb] at h3
          simp only [Bool.false_eq_true, if_false] at h3
          exact ifF rfl (next _ _ _ o2 h' h1 h2 h3 S')
        | true =>
          rw [hb] at h3
          simp only [if_true] at h3
          refine ifT rfl ?_
          have S1 : St (Ow 1 (some (top h'), 0, 0) (u8s []) :: Ow 1 o (u8s o2) :: L) (al h' #[] T.uint8) := (S'.al [] T.uint8).bxOw (sz := 1) (n := 0) rfl
          have el1 : IntKind.i64.wrap (((o.2.1 : Nat) : Int) - 1) = ((o.2.1 - 1 : Nat) : Int) := by rw [wrapI (by omega) (by omega)]; omega
          have S2 := (S1.fz 1 o).itake o (n := o.2.1 - 1) (by omega)
          have hcap := S2.tl.ile 1 o
          simp only [bd, el1, slA_zero, Int.toNat_natCast]
          refine ⟨⟨by omega, by omega⟩, ?_⟩
          have et : (u8s o2).take (o.2.1 - 1) = u8s (o2.take (o2.length - 1)) := by rw [u8s_take, lo]
          rw [et] at S2
          have src : Src P 1 (al h' #[] T.uint8) (.slice o.1 (o.2.1 - 1) o.2.2) (o.2.1 - 1) (u8s (o2.take (o2.length - 1))) := Src.slice (S2.iml (List.mem_cons_self ..)).1 (u8s_one _)
          refine appS (s := (some (top h'), 0, 0)) (bs := []) S2 src (by simp; omega) fun p l c h2' S3 => ⟨_, _, _, rfl, ?_⟩
          refine ixV (i := ((o.2.1 - 1 : Nat) : Int)) (n := o2.length - 1) (w := .int .u8 ((o2.getD (o2.length - 1) 0).toNat : Int)) (S3.isl 1 o) (by omega) (by simp only [u8s, List.getElem?_map, List.getElem?_eq_getElem (show o2.length - 1 < o2.length by omega), Option.map_some, getD_lt _ _ (show o2.length - 1 < o2.length by omega)]) fun q2 eq2 cq2 => ?_
          rw [Int.toNat_natCast] at cq2
          simp only [rdN cq2]
          rw [m7n, wrap_len (by omega), shl_u8 (by omega), or_u8]
          refine ⟨by omega, ?_⟩
          refine app1S (o := (p, l, c)) S3 (by simp; omega) fun p3 l3 c3 h3' S4 => ⟨_, _, _, rfl, next p3 l3 c3 (orLast o2 (bitO (k % 8))) h3' (by simp [orLast]; omega) (by intro e; have := congrArg List.length e; simp [orLast] at this; exact h2 this) h3 ?_⟩
          rw [orLast_eq h2]
          try simp only [List.nil_append] at S4
          exact S4.to
      unfold qak.j2
      refine ifT rfl ?_
      rw [m7n]
      by_cases h8 : k % 8 = 0
      · rw [if_pos h8] at hg
        refine ifT (by simp; omega) ?_
        simp only [bd]
        exact app1S (x := 0) (o := o) S (by omega) fun p l c h2 S2 => ⟨_, _, _, rfl, j4 (p, l, c) (out ++ [0]) h2 (by simp; omega) (by simp) hg S2⟩
      · rw [if_neg h8] at hg
        exact ifF (by simp; omega) (j4 o out h (by omega) (hne h8) hg S)
    · have hk' : k = n := by omega
      by_cases hlt : at' + k < f.length
      · have hout := flagsP_out (f.drop at')
        rw [← hn, List.getElem?_drop, ← hk', List.getElem?_eq_getElem hlt] at hout
        have el : (lb f ((at' + k : Nat) : Int) == 102) = false := by
          have := lbq hlt 102
          rw [show ((102 : UInt8).toNat : Int) = 102 from rfl] at this
          rw [this, beq_eq_false_iff_ne]
          exact fun e => hout (by rw [e])
        refine ifT (by simp; omega) ⟨by omega, by omega, ?_⟩
        rw [el]
        exact stop hk'
      · exact ifF (by simp; omega) (stop hk')
theorem rflagsS {y : SV} {fl : List Bool} {from' at' : Nat} {f : Oct} (S : St L h) [In (Im 1 y) L (bools fl)] (hF : from' + flagsP (f.drop at') ≤ fl.length) (hl : f.length < 1000000) (ha : at' ≤ f.length) (hfr : from' < 1000000)
    (hK : ∀ p l c h', St (Ow 1 (p, l, c) (u8s (packGo ((fl.drop from').take (flagsP (f.drop at'))) 0 [])) :: L) h' → K (.slice p l c) h') :
    CallsH P F.qak [.slice y.1 y.2.1 y.2.2, .int .i64 from', .string (mkS f), .int .i64 at'] K h := by
  refine qak.ok ?_
  unfold qak.p0
  exact ⟨_, rflags_loop rfl hF hl ha hfr hK _ 0 (none, 0, 0) [] h (Nat.lt_succ_self _) (Nat.zero_le _) (by simp) (fun e => absurd rfl e) rfl (S.owNil 1)⟩
theorem fits_loop {m : Addr} {a b : Int} {y : MV} {x : PM} {B : Nat → Prop} {f : Oct} {res : Bool} (nf : niceForm f) (hx : x.N.length < 1000000 ∧ x.S.length < 1000000 ∧ x.F.length < 1000000) (h64 : ∀ v ∈ x.N, v < 18446744073709551616) (hw : wtD 8 x.T ≤ 67108864)
    [In (Im 1 y.n) L (nums x.N)] [In (Im 1 y.s) L (strs x.S)] [In (Im 1 y.f) L (bools x.F)] [In (Tb B y.t) L x.T]
    (hK : ∀ h', St L h' → K (.bool res) h') :
    ∀ (fuel i n s fc t : Nat) (h : Heap), f.length - i < fuel → i ≤ f.length → n ≤ i ∧ s ≤ i ∧ fc ≤ i ∧ t ≤ i → n ≤ x.N.length → s ≤ x.S.length →
      (fitsNS (f.drop i) (x.N.drop n) (x.S.drop s) && decide (x.F.length = fc + (f.drop i).countP isF) && decide (t + (f.drop i).countP isT = 1 ∨ x.T = []) && tableOkP x.T) = res →
      St (Bx m (mcells a b y) :: L) h → qah.L2 K fuel f m n s fc t i h
  | 0, _, _, _, _, _, _, hf, _, _, _, _, _, _ => absurd hf (Nat.not_lt_zero _)
  | fuel + 1, i, n, s, fc, t, h, hf, hi, hb, hn, hs, hg, S => by
    unfold qah.L2
    have lS : y.s.2.1 = x.S.length := by have := (S.isl 1 y.s).1; simp only [strs, List.length_map, Nat.mul_one] at this; omega
    have lN : y.n.2.1 = x.N.length := by have := (S.isl 1 y.n).1; simp only [nums, List.length_map, Nat.mul_one] at this; omega
    have lF : y.f.2.1 = x.F.length := by have := (S.isl 1 y.f).1; simp only [bools, List.length_map, Nat.mul_one] at this; omega
    have lT := tbLen S (B := B) (s := y.t)
    have hfl := nf.2.2
    by_cases hlt : i < f.length
    · refine ifT (by simp; omega) ⟨by omega, by omega, ?_⟩
      have hc := nf.1 f[i] (List.getElem_mem _)
      have hdrop : f.drop i = f[i] :: f.drop (i + 1) := List.drop_eq_getElem_cons hlt
      have el : lb f i = (f[i].toNat : Int) := by simp [lb, List.getD, hlt]
      rw [hdrop] at hg
      rw [el]
      generalize f[i] = c at *
      have e115 := eb8 c 115
      have e108 := eb8 c 108
      have e116 := eb8 c 116
      have e102 := eb8 c 102
      simp only [show ((102 : UInt8).toNat : Int) = 102 from rfl, show ((116 : UInt8).toNat : Int) = 116 from rfl, show ((115 : UInt8).toNat : Int) = 115 from rfl, show ((108 : UInt8).toNat : Int) = 108 from rfl] at e115 e108 e116 e102
      simp only [bd]
      rw [e115, e108]
      have j3 : ∀ n s fc t : Nat, n ≤ i + 1 ∧ s ≤ i + 1 ∧ fc ≤ i + 1 ∧ t ≤ i + 1 → n ≤ x.N.length → s ≤ x.S.length →
          (fitsNS (f.drop (i + 1)) (x.N.drop n) (x.S.drop s) && decide (x.F.length = fc + (f.drop (i + 1)).countP isF) && decide (t + (f.drop (i + 1)).countP isT = 1 ∨ x.T = []) && tableOkP x.T) = res →
          qah.j3 K (qah.L2 K fuel) f m n s fc t i h := by
        intro n s fc t h1 h2 h3 h4
        unfold qah.j3
        simp only [bd]
        rw [wsucc (by omega)]
        exact fits_loop (B := B) nf hx h64 hw hK fuel (i + 1) n s fc t h (by omega) (by omega) h1 h2 h3 h4 S
      simp only [List.countP_cons] at hg
      by_cases k1 : c = 115 ∨ c = 108
      · have kF : isF c = false := by rcases k1 with rfl | rfl <;> rfl
        have kT : isT c = false := by rcases k1 with rfl | rfl <;> rfl
        simp only [kF, kT, Bool.false_eq_true, if_false, Nat.add_zero] at hg
        have j4 : qah.j4 K (qah.L2 K fuel) f m n s fc t i (c.toNat : Int) (c.toNat : Int) true h := by
          unfold qah.j4
          refine ifT rfl ?_
          simp only [rdS (S.rc m 3 rfl)]
          have no : res = false → ∀ b, b = true → qah.j5 K (qah.L2 K fuel) f m n s fc t i b h := by
            intro e b eb
            subst e; subst eb
            unfold qah.j5
            exact ifT rfl (hK h S.tl)
          by_cases hlen : s ≥ x.S.length
          · refine ifT' (by simp; omega) (no ?_ true rfl)
            rw [List.drop_eq_nil_of_le hlen] at hg
            rw [fitsNS_cons, if_pos k1] at hg
            simpa using hg.symm
          · refine ifF' (by simp; omega) ?_
            have hsd : x.S.drop s = x.S[s]'(by omega) :: x.S.drop (s + 1) := List.drop_eq_getElem_cons (by omega)
            rw [hsd, fitsNS_cons, if_pos k1] at hg
            simp only at hg
            have yes : (decide (c = 108) || decide ((x.S[s]'(by omega)).length ≤ 255)) = true → qah.j5 K (qah.L2 K fuel) f m n s fc t i false h := by
              intro e
              rw [e, Bool.true_and] at hg
              unfold qah.j5
              refine ifF rfl ?_
              simp only [bd]
              rw [wsucc (by omega)]
              exact j3 n (s + 1) fc t (by omega) hn (by omega) hg
            rw [e115]
            by_cases k2 : c = 115
            · refine ifT (by simp [k2]) ?_
              refine ixV (i := (s : Int)) (n := s) (w := .string (mkS (x.S[s]'(by omega)))) (S.isl 1 y.s) rfl (by simp only [strs, List.getElem?_map, List.getElem?_eq_getElem (show s < x.S.length by omega), Option.map_some]) fun q eq cq => ?_
              simp only [rdT cq]
              by_cases h255 : (x.S[s]'(by omega)).length ≤ 255
              · rw [show decide (((List.length (x.S[s]'(by omega)) : Nat) : Int) > 255) = false from decide_eq_false (by omega)]
                exact yes (by simp [h255])
              · rw [show decide (((List.length (x.S[s]'(by omega)) : Nat) : Int) > 255) = true from decide_eq_true (by omega)]
                refine no ?_ true rfl
                rw [k2, decide_eq_false h255] at hg
                simpa using hg.symm
            · exact ifF (by simp [k2]) (yes (by simp [k1.resolve_left k2]))
        by_cases k2 : c = 115
        · exact ifT (by simp [k2]) (by rw [decide_eq_true k2]; exact j4)
        · exact ifF (by simp [k2]) (by rw [decide_eq_true (k1.resolve_left k2)]; exact j4)
      have n5 : ¬ c = 115 := fun e => k1 (.inl e)
      have n8 : ¬ c = 108 := fun e => k1 (.inr e)
      refine ifF (by simp [n5]) ?_
      rw [decide_eq_false n8]
      unfold qah.j4
      refine ifF rfl ?_
      simp only [bd]
      rw [e116, e102]
      rw [fitsNS_cons, if_neg k1] at hg
      by_cases k3 : c = 116
      · subst k3
        simp only [show isF 116 = false from rfl, show isT 116 = true from rfl, Bool.false_eq_true, if_false, if_true, Nat.add_zero, true_or] at hg
        refine ifT rfl ?_
        rw [wsucc (by omega)]
        refine j3 n s fc (t + 1) (by omega) hn hs ?_
        rw [show t + 1 + List.countP isT (f.drop (i + 1)) = t + (List.countP isT (f.drop (i + 1)) + 1) by omega]
        exact hg
      refine ifF (by simp [k3]) ?_
      by_cases k4 : c = 102
      · subst k4
        simp only [show isF 102 = true from rfl, show isT 102 = false from rfl, Bool.false_eq_true, if_false, if_true, Nat.add_zero, or_true] at hg
        refine ifT rfl ?_
        rw [wsucc (by omega)]
        refine j3 n s (fc + 1) t (by omega) hn hs ?_
        rw [show fc + 1 + List.countP isF (f.drop (i + 1)) = fc + (List.countP isF (f.drop (i + 1)) + 1) by omega]
        exact hg
      refine ifF (by simp [k4]) ?_
      have hd := hc.digit n5 n8 k3 k4
      have hdn := digit_nat hd
      have k5 : ¬ (c = 116 ∨ c = 102) := by rintro (e | e); exact k3 e; exact k4 e
      have kF : isF c = false := by simp [isF, k4]
      have kT : isT c = false := by simp [isT, k3]
      simp only [kF, kT, Bool.false_eq_true, if_false, Nat.add_zero, if_neg k5] at hg
      simp only [rdS (S.rc m 2 rfl)]
      have no : res = false → qah.j6 K (qah.L2 K fuel) f m n s fc t i true h := by
        intro e
        subst e
        unfold qah.j6
        exact ifT rfl (hK h S.tl)
      by_cases hlen : n ≥ x.N.length
      · have : res = false := by
          rw [List.drop_eq_nil_of_le hlen] at hg
          simpa using hg.symm
        exact ifT' (by simp; omega) ⟨⟨no this, no this⟩, no this⟩
      · refine ifF' (by simp; omega) (sizeS hd ⟨_, rfl, ?_⟩)
        have hnd : x.N.drop n = x.N[n]'(by omega) :: x.N.drop (n + 1) := List.drop_eq_getElem_cons (by omega)
        rw [hnd] at hg
        simp only at hg
        have yes : (decide (c.toNat - 48 = 8) || decide ((x.N[n]'(by omega)) / 256 ^ (c.toNat - 48) = 0)) = true → qah.j6 K (qah.L2 K fuel) f m n s fc t i false h := by
          intro e
          rw [e, Bool.true_and] at hg
          unfold qah.j6
          refine ifF rfl ?_
          simp only [bd]
          rw [wsucc (by omega)]
          exact j3 (n + 1) s fc t (by omega) (by omega) hs hg
        by_cases h8 : c.toNat - 48 = 8
        · have y6 := yes (by simp [h8])
          exact ifF (by simp; omega) ⟨⟨y6, y6⟩, y6⟩
        · refine ifT (by simp; omega) ?_
          have hv := h64 _ (List.getElem_mem (show n < x.N.length by omega))
          have ew : IntKind.u64.wrap (IntKind.i64.wrap ((8 : Int) * ((c.toNat - 48 : Nat) : Int))) = ((8 * (c.toNat - 48) : Nat) : Int) := by
            rw [wrapI (by omega) (by omega), IntKind.wrap_u64]; omega
          have eq0 : (shrI .u64 ((x.N[n]'(by omega) : Nat) : Int) ((8 * (c.toNat - 48) : Nat) : Int) != 0) = decide (¬ (x.N[n]'(by omega)) / 256 ^ (c.toNat - 48) = 0) := by
            simp only [shrI, IntKind.bits, Int.toNat_natCast]
            rw [show min (8 * (c.toNat - 48)) 64 = 8 * (c.toNat - 48) by omega]
            have hp : (2 : Int) ^ (8 * (c.toNat - 48)) = ((256 ^ (c.toNat - 48) : Nat) : Int) := by
              have : (256 : Nat) ^ (c.toNat - 48) = 2 ^ (8 * (c.toNat - 48)) := by rw [Nat.pow_mul]
              rw [this, Int.natCast_pow]; rfl
            rw [hp, Int.fdiv_eq_ediv_of_nonneg _ (Int.natCast_nonneg _), ← Int.natCast_ediv, Bool.eq_iff_iff, bne_iff_ne, decide_eq_true_eq]
            omega
          have j6 : qah.j6 K (qah.L2 K fuel) f m n s fc t i (decide (¬ (x.N[n]'(by omega)) / 256 ^ (c.toNat - 48) = 0)) h := by
            by_cases h0 : (x.N[n]'(by omega)) / 256 ^ (c.toNat - 48) = 0
            · rw [decide_eq_false (fun e => e h0)]
              exact yes (by simp [h0])
            · rw [decide_eq_true h0]
              refine no ?_
              rw [decide_eq_false h8, decide_eq_false h0] at hg
              simpa using hg.symm
          have ix := ixV (h := h) (i := (n : Int)) (n := n) (w := .int .u64 ((x.N[n]'(by omega) : Nat) : Int)) (R := fun a => a = a) (S.isl 1 y.n) rfl (by simp only [nums, List.getElem?_map, List.getElem?_eq_getElem (show n < x.N.length by omega), Option.map_some])
          have cell : ∃ q, y.n.1 = some q ∧ (0 : Int) ≤ (n : Int) ∧ (n : Int) < ((y.n.2.1 : Nat) : Int) ∧ hcell h (q.add (Int.toNat (n : Int) * 1)) = some (.int .u64 ((x.N[n]'(by omega) : Nat) : Int)) :=
            ixV (i := (n : Int)) (n := n) (w := .int .u64 ((x.N[n]'(by omega) : Nat) : Int)) (S.isl 1 y.n) rfl (by simp only [nums, List.getElem?_map, List.getElem?_eq_getElem (show n < x.N.length by omega), Option.map_some]) fun q _ cq => cq
          obtain ⟨q, eq, c1, c2, cq⟩ := cell
          have hsz : ∀ {K : KT}, K (.int .i64 ((c.toNat - 48 : Nat) : Int)) h → CallsH P F.qaw [.int .u8 (c.toNat : Int)] K h := fun hK => sizeS hd hK
          simp only [rdS (S.rc m 2 rfl)]
          refine ⟨⟨q, eq, c1, c2, ?_⟩, ?_⟩
          · simp only [rdN cq]
            exact ⟨hsz ⟨_, rfl, by rw [ew]; omega, by rw [ew, eq0]; exact j6⟩, hsz ⟨_, rfl, _, cq, by rw [ew]; omega, by rw [ew, eq0]; exact j6⟩⟩
          · refine hsz ⟨_, rfl, ?_⟩
            simp only [rdS (S.rc m 2 rfl)]
            refine ⟨q, eq, c1, c2, ?_⟩
            simp only [rdN cq]
            exact ⟨by rw [ew]; omega, by rw [ew, eq0]; exact j6⟩
    · refine ifF (by simp; omega) ?_
      rw [List.drop_eq_nil_of_le (by omega)] at hg
      simp only [fitsNS, List.countP_nil, Nat.add_zero] at hg
      unfold qah.j1
      simp only [rdS (S.rc m 2 rfl), rdS (S.rc m 3 rfl), rdS (S.rc m 4 rfl), rdS (S.rc m 5 rfl)]
      have fin : res = false → K (.bool false) h := fun e => by subst e; exact hK h S.tl
      by_cases c1 : n = x.N.length
      · refine ifT (by simp; omega) ?_
        by_cases c2 : s = x.S.length
        · refine ifT (by simp; omega) ?_
          have e1 : (x.N.drop n = [] ∧ x.S.drop s = []) := ⟨List.drop_eq_nil_of_le (by omega), List.drop_eq_nil_of_le (by omega)⟩
          rw [decide_eq_true e1, Bool.true_and] at hg
          by_cases c3 : fc = x.F.length
          · refine ifT (by simp; omega) ?_
            replace hg : (decide (t = 1 ∨ x.T = []) && tableOkP x.T) = res := by rw [← hg]; have e : x.F.length = fc := c3.symm; simp only [e, decide_true, Bool.true_and]; congr
            have tok : (t = 1 ∨ x.T = []) → CallsH P F.qbk [.slice y.t.1 y.t.2.1 y.t.2.2] (fun v h' => ∃ b, v = .bool b ∧ K (.bool b) h') h := by
              intro e
              rw [decide_eq_true e, Bool.true_and] at hg
              subst hg
              exact rtokS (B := B) S hw fun h1 S1 => ⟨_, rfl, hK h1 S1.tl⟩
            by_cases c4 : t = 1
            · exact ifT' (by simp [c4]) ⟨fun _ => tok (.inl c4), fun e => absurd e (by simp)⟩
            · refine ifF' (by simp; omega) ?_
              by_cases c5 : x.T = []
              · exact ifT (by rw [nilB _ _ lT]; simp [c5]) (tok (.inr c5))
              · refine ifF (by rw [nilB _ _ lT]; simp [c5]) (fin ?_)
                rw [decide_eq_false (fun e => e.elim c4 c5), Bool.false_and] at hg
                exact hg.symm
          · refine ifF (by simp; omega) (fin ?_)
            replace hg : false = res := by
              rw [← hg]
              have : ¬ x.F.length = fc := fun e => c3 e.symm
              simp [this]
            exact hg.symm
        · refine ifF (by simp; omega) (fin ?_)
          rw [decide_eq_false, Bool.false_and, Bool.false_and, Bool.false_and] at hg
          · exact hg.symm
          · intro e
            have := List.drop_eq_nil_iff.1 e.2
            omega
      · refine ifF (by simp; omega) (fin ?_)
        rw [decide_eq_false, Bool.false_and, Bool.false_and, Bool.false_and] at hg
        · exact hg.symm
        · intro e
          have := List.drop_eq_nil_iff.1 e.1
          omega
theorem fitsS {a b : Int} {y : MV} {x : PM} {B : Nat → Prop} {f : Oct} (S : St L h) (nf : niceForm f) (hx : x.N.length < 1000000 ∧ x.S.length < 1000000 ∧ x.F.length < 1000000) (h64 : ∀ v ∈ x.N, v < 18446744073709551616) (hw : wtD 8 x.T ≤ 67108864)
    [In (Im 1 y.n) L (nums x.N)] [In (Im 1 y.s) L (strs x.S)] [In (Im 1 y.f) L (bools x.F)] [In (Tb B y.t) L x.T]
    (hK : ∀ h', St L h' → K (.bool (fitsP f x)) h') : CallsH P F.qah [.agg (List.toArray (mcells a b y)), .string (mkS f)] K h := by
  refine qah.ok ?_
  unfold qah.p0
  simp only [bd]
  exact ⟨_, fits_loop (B := B) nf hx h64 hw hK _ 0 0 0 0 0 _ (Nat.lt_succ_self _) (Nat.zero_le _) (by omega) (Nat.zero_le _) (Nat.zero_le _) (by simp [fitsP]) (S.al (mcells a b y) T.api_Method)⟩
theorem wr_cons (prev : Bool) (c : UInt8) (r : Oct) (o : Oct) (x : PM) : wr prev (c :: r) (o, x) = (if c = 115 then wr false r (o ++ octsN 1 (x.S.headD []).length ++ x.S.headD [], { x with S := x.S.tail })
    else if c = 108 then wr false r (o ++ octsN 4 (x.S.headD []).length ++ x.S.headD [], { x with S := x.S.tail })
    else if c = 116 then wr false r (o ++ octsN 4 (rowsR 8 x.T).length ++ rowsR 8 x.T, x)
    else if c = 102 then wr true r (if prev then o else o ++ packGo (x.F.take (flagsP (c :: r))) 0 [], { x with F := x.F.tail })
    else wr false r (o ++ octsN (c.toNat - 48) (x.N.headD 0), { x with N := x.N.tail })) := by
  conv => lhs; unfold wr
theorem wr_app : ∀ (f : Oct) (prev : Bool) (q o : Oct) (x : PM), wr prev f (q ++ o, x) = q ++ wr prev f (o, x)
  | [], _, _, _, _ => by simp [wr]
  | c :: r, prev, q, o, x => by
    rw [wr_cons, wr_cons]
    have ih := wr_app r
    by_cases k1 : c = 115
    · rw [if_pos k1, if_pos k1, ← ih]; simp only [List.append_assoc]
    rw [if_neg k1, if_neg k1]
    by_cases k2 : c = 108
    · rw [if_pos k2, if_pos k2, ← ih]; simp only [List.append_assoc]
    rw [if_neg k2, if_neg k2]
    by_cases k3 : c = 116
    · rw [if_pos k3, if_pos k3, ← ih]; simp only [List.append_assoc]
    rw [if_neg k3, if_neg k3]
    by_cases k4 : c = 102
    · rw [if_pos k4, if_pos k4, ← ih]
      cases prev
      · simp only [Bool.false_eq_true, if_false, List.append_assoc]
      · simp only [if_true]
    rw [if_neg k4, if_neg k4, ← ih]
    simp only [List.append_assoc]
theorem method_loop {m : Addr} {a b : Int} {y : MV} {x : PM} {B : Nat → Prop} {f : Oct} {res : Oct} (nf : niceForm f) (hx : x.N.length < 1000000 ∧ x.S.length < 1000000 ∧ x.F.length < 1000000) (hsl : ∀ s ∈ x.S, s.length < 1073741824) (hw : wtD 8 x.T ≤ 67108864) (hok : tableOkP x.T = true)
    [In (Im 1 y.n) L (nums x.N)] [In (Im 1 y.s) L (strs x.S)] [In (Im 1 y.f) L (bools x.F)] [In (Tb B y.t) L x.T]
    (hK : ∀ p l c h', St (Ow 1 (p, l, c) (u8s res) :: L) h' → K (.tuple #[.slice p l c, .bool true]) h') :
    ∀ (fuel i n s fc : Nat) (o : SV) (out : Oct) (h : Heap), f.length - i < fuel → i ≤ f.length → n ≤ i ∧ s ≤ i ∧ fc ≤ i → n ≤ x.N.length → s ≤ x.S.length → fitsNS (f.drop i) (x.N.drop n) (x.S.drop s) = true → x.F.length = fc + (f.drop i).countP isF → out.length ≤ 2147483648 + i * 2147483648 →
      wr (decide (0 < i ∧ f[i - 1]? = some 102)) (f.drop i) (out, ⟨x.N.drop n, x.S.drop s, x.F.drop fc, x.T⟩) = res → St (Ow 1 o (u8s out) :: Bx m (mcells a b y) :: L) h → qad.L3 K fuel o.1 o.2.1 o.2.2 m f n s fc i h
  | 0, _, _, _, _, _, _, _, hf, _, _, _, _, _, _, _, _, _ => absurd hf (Nat.not_lt_zero _)
  | fuel + 1, i, n, s, fc, o, out, h, hf, hi, hb, hn, hs, hfit, hF, ho, hg, S => by
    unfold qad.L3
    have hfl := nf.2.2
    by_cases hlt : i < f.length
    · refine ifT (by simp; omega) ⟨by omega, by omega, ?_⟩
      have hc := nf.1 f[i] (List.getElem_mem _)
      have hdrop : f.drop i = f[i] :: f.drop (i + 1) := List.drop_eq_getElem_cons hlt
      have el : lb f i = (f[i].toNat : Int) := by simp [lb, List.getD, hlt]
      have eprev : ∀ c, f[i] = c → decide (0 < i + 1 ∧ f[i + 1 - 1]? = some 102) = decide (c = 102) := by
        intro c ec
        rw [Nat.add_sub_cancel, List.getElem?_eq_getElem hlt, ec]
        simp
      have e102' : 0 < i → (lb f ((i - 1 : Nat) : Int) != 102) = !decide (0 < i ∧ f[i - 1]? = some 102) := by
        intro h0
        have hl1 : i - 1 < f.length := by omega
        have := lbq hl1 102
        rw [show ((102 : UInt8).toNat : Int) = 102 from rfl] at this
        rw [bne, this, List.getElem?_eq_getElem hl1]
        congr 1
        rw [Bool.eq_iff_iff, beq_iff_eq, decide_eq_true_eq, Option.some.injEq]
        exact ⟨fun e => ⟨h0, e⟩, fun e => e.2⟩
      have hruns : flagsP (f.drop i) ≤ (f.drop i).countP isF := by have := (flags_split (f.drop i)).2.2.2; omega
      have hF0 := hF
      have dropKeep := hdrop
      rw [hdrop, wr_cons] at hg
      rw [hdrop, fitsNS_cons] at hfit
      rw [hdrop, List.countP_cons] at hF
      rw [el]
      have ep := eprev _ rfl
      generalize hcc : f[i] = c at *
      have e115 := eb8 c 115
      have e108 := eb8 c 108
      have e116 := eb8 c 116
      have e102 := eb8 c 102
      simp only [show ((102 : UInt8).toNat : Int) = 102 from rfl, show ((116 : UInt8).toNat : Int) = 116 from rfl, show ((115 : UInt8).toNat : Int) = 115 from rfl, show ((108 : UInt8).toNat : Int) = 108 from rfl] at e115 e108 e116 e102
      simp only [bd]
      rw [e115, e108, e116, e102]
      have lO : o.2.1 = out.length := by have := Sl.len S.sl; omega
      have j4 : ∀ (n s fc : Nat) (p : OA) (l cc : Nat) (out2 : Oct) (h' : Heap), n ≤ i + 1 ∧ s ≤ i + 1 ∧ fc ≤ i + 1 → n ≤ x.N.length → s ≤ x.S.length → fitsNS (f.drop (i + 1)) (x.N.drop n) (x.S.drop s) = true → x.F.length = fc + (f.drop (i + 1)).countP isF → out2.length ≤ out.length + 2147483648 →
          wr (decide (c = 102)) (f.drop (i + 1)) (out2, ⟨x.N.drop n, x.S.drop s, x.F.drop fc, x.T⟩) = res → St (Ow 1 (p, l, cc) (u8s out2) :: Bx m (mcells a b y) :: L) h' → qad.j4 K (qad.L3 K fuel) p l cc m f n s fc i h' := by
        intro n s fc p l cc out2 h' h1 h2 h3 h4 h5 h6 h7 S'
        unfold qad.j4
        simp only [bd]
        rw [wsucc (by omega)]
        exact method_loop (B := B) nf hx hsl hw hok hK fuel (i + 1) n s fc (p, l, cc) out2 h' (by omega) (by omega) h1 h2 h3 h4 h5 (by omega) (by rw [ep]; exact h7) S'
      by_cases k1 : c = 115 ∨ c = 108
      · have kF : isF c = false := by rcases k1 with rfl | rfl <;> rfl
        have k102 : decide (c = 102) = false := by rcases k1 with rfl | rfl <;> rfl
        rw [if_pos k1] at hfit
        rw [kF] at hF
        by_cases hlen : s ≥ x.S.length
        · rw [List.drop_eq_nil_of_le hlen] at hfit
          cases hfit
        have hsd : x.S.drop s = x.S[s]'(by omega) :: x.S.drop (s + 1) := List.drop_eq_getElem_cons (by omega)
        rw [hsd] at hfit hg
        simp only [Bool.and_eq_true] at hfit
        have hlS := hsl _ (List.getElem_mem (show s < x.S.length by omega))
        have cell : ∃ q, y.s.1 = some q ∧ (0 : Int) ≤ (s : Int) ∧ (s : Int) < ((y.s.2.1 : Nat) : Int) ∧ hcell h (q.add (Int.toNat (s : Int) * 1)) = some (.string (mkS (x.S[s]'(by omega)))) :=
          ixV (i := (s : Int)) (n := s) (w := .string (mkS (x.S[s]'(by omega)))) (S.isl 1 y.s) rfl (by simp only [strs, List.getElem?_map, List.getElem?_eq_getElem (show s < x.S.length by omega), Option.map_some]) fun q _ cq => cq
        obtain ⟨q, eq, c1, c2, cq⟩ := cell
        by_cases k2 : c = 115
        · rw [if_pos k2] at hg
          simp only [List.headD_cons, List.tail_cons] at hg
          refine ifT (by simp [k2]) ?_
          simp only [rdS (S.rc m 3 rfl)]
          refine ⟨q, eq, c1, c2, ?_⟩
          simp only [rdT cq]
          refine rrshortS (s := o) S S.sl (by omega) (by omega) fun p l cc h2 S2 => ⟨_, _, _, rfl, ?_⟩
          rw [wsucc (by omega)]
          exact j4 n (s + 1) fc p l cc _ h2 (by omega) hn (by omega) hfit.2 (by simpa using hF) (by simp [octsN_length]; omega) (by rw [k102]; exact hg) S2.d1
        · rw [if_neg k2, if_pos (k1.resolve_left k2)] at hg
          simp only [List.headD_cons, List.tail_cons] at hg
          refine ifF (by simp [k2]) (ifT (by simp [k1.resolve_left k2]) ?_)
          simp only [rdS (S.rc m 3 rfl)]
          refine ⟨q, eq, c1, c2, ?_⟩
          simp only [rdT cq]
          refine St.bytes u_str u_sl u_u8 S fun cb h2 S2 => ⟨_, _, _, rfl, ?_⟩
          refine rrlongS (s := o) (bs := out) (t := (some (top h), _, cb)) S2 S2.p1.sl S2.sl (by omega) (by omega) fun p l cc h3 S3 => ⟨_, _, _, rfl, ?_⟩
          rw [wsucc (by omega)]
          exact j4 n (s + 1) fc p l cc _ h3 (by omega) hn (by omega) hfit.2 (by simpa using hF) (by simp [octsN_length]; omega) (by rw [k102]; exact hg) S3.d1.d1
      have n5 : ¬ c = 115 := fun e => k1 (.inl e)
      have n8 : ¬ c = 108 := fun e => k1 (.inr e)
      refine ifF (by simp [n5]) (ifF (by simp [n8]) ?_)
      rw [if_neg n5, if_neg n8] at hg
      rw [if_neg k1] at hfit
      by_cases k3 : c = 116
      · subst k3
        rw [if_pos rfl] at hg
        rw [if_pos (.inl rfl)] at hfit
        refine ifT rfl ?_
        simp only [rdS (S.rc m 5 rfl)]
        have hfd : formedP 8 x.T = true ∧ (rowsR 8 x.T).length ≤ 2000 := by
          unfold tableOkP at hok
          simpa using hok
        refine rrowsS (B := B) S hfd.1 hw fun p1 l1 c1 h1 S1 => ⟨_, _, _, rfl, ?_⟩
        refine rrlongS (s := o) (bs := out) (t := (p1, l1, c1)) S1 S1.p1.sl S1.sl (by omega) (by omega) fun p l cc h3 S3 => ⟨_, _, _, rfl, ?_⟩
        exact j4 n s fc p l cc _ h3 (by omega) hn hs hfit (by simpa [isF] using hF) (by simp [octsN_length]; omega) hg S3.d1.d1
      rw [if_neg k3] at hg
      refine ifF (by simp [k3]) ?_
      by_cases k4 : c = 102
      · subst k4
        rw [if_pos rfl] at hg
        rw [if_pos (.inr rfl)] at hfit
        rw [show isF 102 = true from rfl, if_pos rfl] at hF
        have j5 : ∀ (p : OA) (l cc : Nat) (out2 : Oct) (h' : Heap), out2.length ≤ out.length + 2147483648 → out2 = (if decide (0 < i ∧ f[i - 1]? = some 102) = true then out else out ++ packGo (List.take (flagsP (102 :: f.drop (i + 1))) (x.F.drop fc)) 0 []) →
            St (Ow 1 (p, l, cc) (u8s out2) :: Bx m (mcells a b y) :: L) h' → qad.j5 K (qad.L3 K fuel) p l cc m f n s fc i h' := by
          intro p l cc out2 h' h1 h2 S'
          unfold qad.j5
          simp only [bd]
          rw [wsucc (by omega)]
          refine j4 n s (fc + 1) p l cc out2 h' (by omega) hn hs hfit (by omega) h1 ?_ S'
          rw [← h2] at hg
          simp only [List.tail_drop] at hg
          exact hg
        have j6 : ∀ bb : Bool, bb = !decide (0 < i ∧ f[i - 1]? = some 102) → qad.j6 K (qad.L3 K fuel) o.1 o.2.1 o.2.2 m f n s fc i bb h := by
          intro bb eb
          unfold qad.j6
          cases hp : decide (0 < i ∧ f[i - 1]? = some 102) with
          | true =>
            rw [hp] at eb
            subst eb
            exact ifF rfl (j5 _ _ _ out h (by omega) (by rw [hp]; rfl) S)
          | false =>
            rw [hp] at eb
            subst eb
            refine ifT rfl ?_
            simp only [rdS (S.rc m 4 rfl)]
            refine rflagsS (y := y.f) (fl := x.F) (from' := fc) (at' := i) (f := f) S (by omega) (by omega) hi (by omega) fun p1 l1 c1 h1 S1 => ⟨_, _, _, rfl, ?_⟩
            have hpl := packGo_len ((x.F.drop fc).take (flagsP (f.drop i))) 0 []
            simp only [List.length_nil, Nat.zero_add, List.length_take, List.length_drop] at hpl
            refine appS (s := o) (bs := out) S1 (Src.slice S1.sl (u8s_one _)) (by omega) fun p l cc h2 S2 => ⟨_, _, _, rfl, j5 p l cc (out ++ packGo ((x.F.drop fc).take (flagsP (f.drop i))) 0 []) h2 ?_ ?_ ?_⟩
            · simp only [List.length_append]; omega
            · rw [hp, dropKeep]; rfl
            · exact S2.d1
        refine ifT rfl ?_
        by_cases h0 : i = 0
        · exact ifT' (by simp [h0]) (j6 true (by simp [h0]))
        · have ew : IntKind.i64.wrap ((i : Int) - 1) = ((i - 1 : Nat) : Int) := by rw [wrapI (by omega) (by omega)]; omega
          rw [ew]
          refine ifF' (by simp; omega) ⟨by omega, by omega, ?_⟩
          rw [e102' (by omega)]
          exact j6 _ rfl
      rw [if_neg k4] at hg
      refine ifF (by simp [k4]) ?_
      have hd := hc.digit n5 n8 k3 k4
      have hdn := digit_nat hd
      have k5 : ¬ (c = 116 ∨ c = 102) := by rintro (e | e); exact k3 e; exact k4 e
      have kF : isF c = false := by simp [isF, k4]
      rw [if_neg k5] at hfit
      rw [kF] at hF
      by_cases hlen : n ≥ x.N.length
      · rw [List.drop_eq_nil_of_le hlen] at hfit
        cases hfit
      have hnd : x.N.drop n = x.N[n]'(by omega) :: x.N.drop (n + 1) := List.drop_eq_getElem_cons (by omega)
      rw [hnd] at hfit hg
      simp only [Bool.and_eq_true, List.headD_cons, List.tail_cons] at hfit hg
      have cell : ∃ q, y.n.1 = some q ∧ (0 : Int) ≤ (n : Int) ∧ (n : Int) < ((y.n.2.1 : Nat) : Int) ∧ hcell h (q.add (Int.toNat (n : Int) * 1)) = some (.int .u64 ((x.N[n]'(by omega) : Nat) : Int)) :=
        ixV (i := (n : Int)) (n := n) (w := .int .u64 ((x.N[n]'(by omega) : Nat) : Int)) (S.isl 1 y.n) rfl (by simp only [nums, List.getElem?_map, List.getElem?_eq_getElem (show n < x.N.length by omega), Option.map_some]) fun q _ cq => cq
      obtain ⟨q, eq, c1, c2, cq⟩ := cell
      have put : CallsH P F.qbb [.slice o.1 o.2.1 o.2.2, .int .i64 ((c.toNat - 48 : Nat) : Int), .int .u64 ((x.N[n]'(by omega) : Nat) : Int)] (fun v h' => ∃ p l cc, v = .slice p l cc ∧ qad.j7 K (qad.L3 K fuel) p l cc m f n s fc i h') h := by
        refine rputS (s := o) S S.sl (by omega) (by omega) fun p l cc h2 S2 => ⟨_, _, _, rfl, ?_⟩
        unfold qad.j7
        simp only [bd]
        rw [wsucc (by omega)]
        exact j4 (n + 1) s fc p l cc _ h2 (by omega) (by omega) hs hfit.2 (by simpa using hF) (by simp [octsN_length]; omega) (by rw [decide_eq_false k4]; exact hg) S2.d1
      have hsz : ∀ {K : KT}, K (.int .i64 ((c.toNat - 48 : Nat) : Int)) h → CallsH P F.qaw [.int .u8 (c.toNat : Int)] K h := fun hK => sizeS hd hK
      refine ⟨hsz ⟨_, rfl, ?_⟩, ?_⟩
      · simp only [rdS (S.rc m 2 rfl)]
        refine ⟨q, eq, c1, c2, ?_⟩
        simp only [rdN cq]
        exact put
      · simp only [rdS (S.rc m 2 rfl)]
        refine ⟨q, eq, c1, c2, hsz ⟨_, rfl, ?_⟩, ?_⟩
        · simp only [rdN cq]
          exact put
        · simp only [rdN cq]
          exact hsz ⟨_, rfl, put⟩
    · refine ifF (by simp; omega) (hK _ _ _ h ?_)
      rw [List.drop_eq_nil_of_le (by omega)] at hg
      simp only [wr] at hg
      subst hg
      exact S.d1
theorem rmethS {t : SV} {bs : Oct} {a b : Int} {y : MV} {x : PM} {B : Nat → Prop} (S : St L h) [mt : In (fun b => Im 1 t (u8s b)) L bs] [In (Im 1 y.n) L (nums x.N)] [In (Im 1 y.s) L (strs x.S)] [In (Im 1 y.f) L (bools x.F)] [In (Tb B y.t) L x.T]
    (hx : x.N.length < 1000000 ∧ x.S.length < 1000000 ∧ x.F.length < 1000000) (h64 : ∀ v ∈ x.N, v < 18446744073709551616) (hsl : ∀ s ∈ x.S, s.length < 1073741824) (hw : wtD 8 x.T ≤ 67108864) (hb : bs.length < 1073741824)
    (hK : ∀ p l c h', St (Im 1 (p, l, c) (u8s (bs ++ (methW a b x).getD [])) :: L) h' → K (.tuple #[.slice p l c, .bool (methW a b x).isSome]) h') :
    CallsH P F.qad [.slice t.1 t.2.1 t.2.2, .agg (List.toArray (mcells a b y))] K h := by
  refine qad.ok ?_
  unfold qad.p0
  simp only [bd]
  have S1 := S.al (mcells a b y) T.api_Method
  have hIm := isl8 S (s := t) (bs := bs)
  generalize al h (mcells a b y).toArray T.api_Method = h1 at *
  generalize top h = m at *
  simp only [rdN (S1.rc m 0 rfl), rdN (S1.rc m 1 rfl)]
  have no : methW a b x = none → ∀ h', St (Bx m (mcells a b y) :: L) h' → ∀ f, qad.j1 K t.1 t.2.1 t.2.2 m f true h' := by
    intro e h' S' f
    rw [e] at hK
    unfold qad.j1
    refine ifT rfl (hK _ _ _ h' ?_)
    simp only [Option.getD_none, List.append_nil]
    exact S'.tl.dup mt.mem (Im.lc 1 t (u8s bs))
  refine refForm.spec ⟨_, _, rfl, ?_⟩
  cases hf : formP (a, b) with
  | none => exact ifT' rfl (no (by unfold methW; rw [hf]) h1 S1 _)
  | some f =>
    refine ifF' rfl ?_
    simp only [rdC' (S1.rall m 6 rfl), Option.getD_some]
    have nf := formP_nice hf
    have em := methW_eq x hf
    refine fitsS (B := B) S1 nf hx h64 hw fun h2 S2 => ⟨_, rfl, ?_⟩
    cases hfit : fitsP f x with
    | false =>
      rw [hfit, if_neg (by decide)] at em
      exact no em h2 S2 f
    | true =>
      rw [hfit, if_pos rfl] at em
      rw [em] at hK
      simp only [Option.getD_some, Option.isSome_some] at hK
      unfold fitsP at hfit
      simp only [Bool.and_eq_true, decide_eq_true_eq] at hfit
      unfold qad.j1
      refine ifF rfl ?_
      have j2 : ∀ p l c h', St (Ow 1 (p, l, c) (u8s (bs ++ octsN 2 (nat64 a) ++ octsN 2 (nat64 b))) :: Bx m (mcells a b y) :: L) h' → qad.j2 K p l c m f h' := by
        intro p l c h' S'
        unfold qad.j2
        refine ⟨_, method_loop (B := B) (res := bs ++ wr false f (octsN 2 (nat64 a) ++ octsN 2 (nat64 b), x)) nf hx hsl hw hfit.2 (fun p l c h' S' => hK p l c h' S'.im) _ 0 0 0 0 (p, l, c) _ h' (Nat.lt_succ_self _) (Nat.zero_le _) (by omega) (Nat.zero_le _) (Nat.zero_le _) ?_ ?_ ?_ ?_ S'⟩
        · simpa using hfit.1.1.1
        · simpa using hfit.1.1.2
        · simp [octsN_length]; omega
        · rw [← wr_app, List.append_assoc]
          rfl
      have two : ∀ (K' : KT), (∀ p l c h', St (Ow 1 (p, l, c) (u8s (bs ++ octsN 2 (nat64 a))) :: Bx m (mcells a b y) :: L) h' → K' (.slice p l c) h') → CallsH P F.qbb [.slice t.1 t.2.1 t.2.2, .int .i64 2, .int .u64 (nat64 a : Int)] K' h2 :=
        fun K' hK' => rputS (s := t) (n := 2) S2 (isl8 S2 (s := t) (bs := bs)).1 (by omega) (by omega) hK'
      have three : ∀ p l c h', St (Ow 1 (p, l, c) (u8s (bs ++ octsN 2 (nat64 a))) :: Bx m (mcells a b y) :: L) h' → CallsH P F.qbb [.slice p l c, .int .i64 2, .int .u64 (nat64 b : Int)] (fun v h' => ∃ p l c, v = .slice p l c ∧ qad.j2 K p l c m f h') h' :=
        fun p l c h' S' => rputS (s := (p, l, c)) (n := 2) S' S'.sl (by simp [octsN_length]; omega) (by omega) fun p2 l2 c2 h3 S3 => ⟨_, _, _, rfl, j2 p2 l2 c2 h3 S3.d1⟩
      simp only [rdN (S2.rc m 0 rfl), rdN (S2.rc m 1 rfl), wrap_nat64]
      refine ⟨⟨two _ fun p l c h' S' => ⟨_, _, _, rfl, ?_⟩, two _ fun p l c h' S' => ⟨_, _, _, rfl, three p l c h' S'⟩⟩, two _ fun p l c h' S' => ⟨_, _, _, rfl, three p l c h' S'⟩⟩
      simp only [rdN (S'.rc m 1 rfl), wrap_nat64]
      exact three p l c h' S'
end
end Go.Proofs.Ytjkiaeccjelklaa.Pr
end
section
set_option linter.unusedVariables false
set_option linter.unusedSimpArgs false
namespace Go.Proofs.Ytjkiaeccjelklaa.Pr
open Go Go.Lift Go.Proofs
theorem and7 : ∀ n : Fin 64, bitsI .and .i64 ((n.val : Nat) : Int) 7 = ((n.val % 8 : Nat) : Int) ∧ IntKind.u64.wrap (bitsI .and .i64 ((n.val : Nat) : Int) 7) = ((n.val % 8 : Nat) : Int) := by decide +kernel
theorem bit8 : ∀ n : Fin 256, ∀ k : Fin 8, (bitsI .and .u8 (shrI .u8 ((n.val : Nat) : Int) ((k.val : Nat) : Int)) 1 == 1) = bitOf n.val k.val := by decide +kernel
section
variable {K : KT} {L R : List Asr} {h : Heap}
theorem dsizeS {c : UInt8} (hc : c = 49 ∨ c = 50 ∨ c = 52 ∨ c = 56) (hK : K (.int .i64 ((c.toNat - 48 : Nat) : Int)) h) : CallsH P F.qaw [.int .u8 (c.toNat : Int)] K h := by
  refine qaw.ok ?_
  unfold qaw.p0
  have j : ∀ {n : Int}, IntKind.i64.wrap (IntKind.u8.wrap (n - 48)) = ((c.toNat - 48 : Nat) : Int) → qaw.j1 K n true h := by
    intro n e
    unfold qaw.j1
    refine ifT rfl ((bdE _ _).2 ?_)
    rw [e]; exact hK
  rcases hc with rfl | rfl | rfl | rfl
  · exact ifT' rfl (j (by decide))
  · exact ifF' rfl (ifT' rfl (j (by decide)))
  · exact ifF' rfl (ifF' rfl (ifT' rfl (j (by decide))))
  · exact ifF' rfl (ifF' rfl (ifF' rfl (j (by decide))))
theorem mcells_one' (a b : Int) (y : MV) : ∀ w ∈ mcells a b y, one w = true := by
  intro w hw; simp [mcells] at hw; rcases hw with rfl | rfl | rfl | rfl | rfl | rfl <;> rfl
def docOk (r : Option (PM × Oct)) : Option PM := match r with
  | some (x, []) => some x
  | _ => none
theorem mof_loop {s : SV} {bs : Oct} {t2 t8 : Addr} {a_ b_ : Int} {ff : Oct} {res : Option PM} {z2 : List Value} (hz2 : z2.length = 6) (hb : bs.length < 1000000000000) [mi : In (fun z => Im 1 s (u8s z)) L bs]
    (hbad : res = none → ∀ h', St L h' → K (.tuple #[.agg (List.toArray (mcells 0 0 mnil)), .int .i64 4]) h')
    (hgood : ∀ x, res = some x → ∀ y B h', St (Im 1 y.n (nums x.N) :: Im 1 y.s (strs x.S) :: Im 1 y.f (bools x.F) :: Tb B y.t x.T :: L) h' → K (.tuple #[.agg (List.toArray (mcells a_ b_ y)), .int .i64 0]) h') :
    ∀ (f dn : Oct) (at' fl cur : Nat) (x : PM) (h : Heap), ff = dn ++ f → ff.length < 60 → (∀ c ∈ f, letterD c) → at' ≤ bs.length → fl ≤ dn.length → (fl % 8 = 0 ∨ ∃ cu, 0 < at' ∧ bs[at' - 1]? = some cu ∧ cur = cu.toNat) → x.N.length ≤ dn.length → x.S.length ≤ dn.length → x.F.length ≤ dn.length →
      docOk (docR f (bs.drop at') fl cur x) = res → St (MB t8 a_ b_ x :: Bx t2 z2 :: L) h → qab.L3 K (f.length + 1) s.1 s.2.1 s.2.2 t2 t8 ff (at' : Int) (fl : Int) (dn.length : Int) h := by
  intro f
  induction f with
  | nil =>
    intro dn a fl cur x h hff hlen hf ha hfl hcu lN lS lF hr S
    unfold qab.L3
    rw [List.append_nil] at hff
    subst hff
    refine ifF (by simp) ?_
    have ls : s.2.1 = bs.length := Sl.len (isl8 S (s := s) (bs := bs)).1
    unfold qab.j2
    have hr2 : docOk (some (x, bs.drop a)) = res := hr
    by_cases he : a = bs.length
    · have e0 : bs.drop a = [] := List.drop_eq_nil_of_le (by omega)
      rw [e0] at hr2
      obtain ⟨y, B, S1⟩ := MB.op S
      refine ifF (by simp; omega) ⟨_, S1.rall t8 6 rfl, rfl, S1.putA t2 (ws := mcells a_ b_ y) (by rw [hz2]; rfl) (mcells_one' _ _ _) fun h2 S2 => ⟨_, S2.rall t2 6 rfl, hgood x hr2.symm y B h2 ?_⟩⟩
      exact ((S2.fz 1 y.n).fz 1 y.s |>.fz 1 y.f).to
    · obtain ⟨c0, r0, e0⟩ : ∃ c0 r0, bs.drop a = c0 :: r0 := List.exists_cons_of_ne_nil (by intro e; have := congrArg List.length e; simp at this; omega)
      rw [e0] at hr2
      refine ifT (by simp; omega) ⟨rfl, S.putA t2 (ws := mcells 0 0 mnil) (by rw [hz2]; rfl) (mcells_one' _ _ _) fun h2 S2 => ⟨_, S2.rall t2 6 rfl, hbad hr2.symm h2 S2.tl.tl⟩⟩
  | cons c r ih =>
    intro dn a fl cur x h hff hlen hf ha hfl hcu lN lS lF hr S
    have hc := hf c (List.mem_cons_self ..)
    have hrr : ∀ c ∈ r, letterD c := fun c hc => hf c (List.mem_cons_of_mem _ hc)
    have ls : s.2.1 = bs.length := Sl.len (isl8 S (s := s) (bs := bs)).1
    have hil : dn.length < ff.length := by rw [hff]; simp
    have hget : ff[dn.length]? = some c := by rw [hff]; simp
    have el : lb ff (dn.length : Int) = (c.toNat : Int) := by
      have : ff.getD dn.length 0 = c := by rw [List.getD_eq_getElem?_getD, hget]; rfl
      unfold lb; rw [Int.toNat_natCast, this]
    have wi : IntKind.i64.wrap ((dn.length : Int) + 1) = (((dn ++ [c]).length : Nat) : Int) := by rw [wrapI (by omega) (by omega)]; simp
    have e102 := eb8 c 102
    have e115 := eb8 c 115
    have e108 := eb8 c 108
    have e116 := eb8 c 116
    simp only [show ((116 : UInt8).toNat : Int) = 116 from rfl, show ((115 : UInt8).toNat : Int) = 115 from rfl, show ((108 : UInt8).toNat : Int) = 108 from rfl, show ((102 : UInt8).toNat : Int) = 102 from rfl] at e115 e108 e116 e102
    rw [docR_cons] at hr
    -- what follows
    have next : ∀ {a' fl' cur' : Nat} {x' : PM} {h' : Heap}, a' ≤ bs.length → fl' ≤ dn.length + 1 → (fl' % 8 = 0 ∨ ∃ cu, 0 < a' ∧ bs[a' - 1]? = some cu ∧ cur' = cu.toNat) → x'.N.length ≤ dn.length + 1 → x'.S.length ≤ dn.length + 1 → x'.F.length ≤ dn.length + 1 →
        docOk (docR r (bs.drop a') fl' cur' x') = res → St (MB t8 a_ b_ x' :: Bx t2 z2 :: L) h' → qab.j4 K (qab.L3 K (r.length + 1)) s.1 s.2.1 s.2.2 t2 t8 ff (a' : Int) (fl' : Int) (dn.length : Int) h' := by
      intro a' fl' cur' x' h' h1 h2 h3 h4 h5 h6 h7 S'
      unfold qab.j4
      refine (bdE _ _).2 ?_
      rw [wi]
      exact ih (dn ++ [c]) a' fl' cur' x' h' (by rw [hff]; simp) hlen hrr h1 (by simp; omega) h3 (by simp; omega) (by simp; omega) (by simp; omega) h7 S'
    have bad : ∀ {h' : Heap}, docOk none = res → St (MB t8 a_ b_ x :: Bx t2 z2 :: L) h' → ([.int .i64 0, .int .i64 0, .slice none 0 0, .slice none 0 0, .slice none 0 0, .slice none 0 0] : List Value).length = 6 ∧ ∃ h22, stC h' t2 0 [.int .i64 0, .int .i64 0, .slice none 0 0, .slice none 0 0, .slice none 0 0, .slice none 0 0] = some h22 ∧ ∃ cs23, rdC h22 t2 0 6 = some cs23 ∧ K (.tuple #[.agg (List.toArray cs23), .int .i64 4]) h22 := by
      intro h' e S'
      exact ⟨rfl, S'.putA t2 (ws := mcells 0 0 mnil) (by rw [hz2]; rfl) (mcells_one' _ _ _) fun h2 S2 => ⟨_, S2.rall t2 6 rfl, hbad e.symm h2 S2.tl.tl⟩⟩
    unfold qab.L3
    refine ifT (by simp; omega) ⟨by omega, by omega, (bdE _ _).2 ?_⟩
    rw [el]
    by_cases h102 : c = 102
    · rw [if_pos h102] at hr
      refine ifF (by simp only [bne]; rw [e102]; simp [h102]) ?_
      have n115 : c ≠ 115 := by rw [h102]; decide
      have n108 : c ≠ 108 := by rw [h102]; decide
      have n116 : c ≠ 116 := by rw [h102]; decide
      unfold qab.j5
      rw [e115, e108, e116]
      refine (bdE _ _).2 (ifF (by simp [n115]) ((bdE _ _).2 (ifF (by simp [n108]) ((bdE _ _).2 ?_))))
      rw [decide_eq_false n116]
      unfold qab.j6
      refine ifF rfl ((bdE _ _).2 ?_)
      rw [e102]
      refine ifT (by simp [h102]) ?_
      have fl64 : fl < 64 := by omega
      have a7 := and7 ⟨fl, fl64⟩
      simp only at a7
      rw [a7.1]
      -- the octet is there: its flag is taken
      have take : ∀ {a' cur' : Nat} {cu : UInt8} {h' : Heap}, 0 < a' → a' ≤ bs.length → bs[a' - 1]? = some cu → cur' = cu.toNat → docOk (docR r (bs.drop a') (fl + 1) cur' { x with F := x.F ++ [bitOf cur' (fl % 8)] }) = res → St (MB t8 a_ b_ x :: Bx t2 z2 :: L) h' →
          qab.j8 K (qab.L3 K (r.length + 1)) s.1 s.2.1 s.2.2 t2 t8 ff (a' : Int) (fl : Int) (dn.length : Int) h' := by
        intro a' cur' cu h' h0 h1 h2 h3 h4 S'
        unfold qab.j8
        refine ifF (by simp; omega) ?_
        obtain ⟨y, B, S1⟩ := MB.op S'
        have lFy : y.f.2.1 = x.F.length := by have := (S1.ows 1 y.f).1; simp only [bools, List.length_map, Nat.mul_one] at this; omega
        have wa : IntKind.i64.wrap ((a' : Int) - 1) = ((a' - 1 : Nat) : Int) := by rw [IntKind.wrap_i64]; omega
        rw [wa]
        refine ixV (i := ((a' - 1 : Nat) : Int)) (n := a' - 1) (isl8 S1 (s := s) (bs := bs)).1 rfl (w := .int .u8 (cu.toNat : Int)) (by simp [u8s, h2]) fun qq eq cq => ?_
        simp only [rdN cq]
        refine ⟨by rw [a7.2]; omega, ?_⟩
        have b8 := bit8 ⟨cu.toNat, cu.toNat_lt⟩ ⟨fl % 8, by omega⟩
        simp only at b8
        rw [a7.2, b8, ← h3]
        have fin : ∀ {p : OA} {cc : Nat} {h3 : Heap}, St (Bx t8 [.int .i64 a_, .int .i64 b_, y.n.v, y.s.v, .slice p (y.f.2.1 + 1) cc, y.t.v] :: Ow 1 (p, y.f.2.1 + 1, cc) (bools x.F ++ [.bool (bitOf cur' (fl % 8))]) :: Ow 1 y.n (nums x.N) :: Ow 1 y.s (strs x.S) :: Tb B y.t x.T :: Bx t2 z2 :: L) h3 →
            qab.j9 K (qab.L3 K (r.length + 1)) s.1 s.2.1 s.2.2 t2 t8 ff (a' : Int) (fl : Int) (dn.length : Int) h3 := by
          intro p cc h3' S3
          have e : bools x.F ++ [.bool (bitOf cur' (fl % 8))] = bools (x.F ++ [bitOf cur' (fl % 8)]) := by simp [bools]
          rw [e] at S3
          unfold qab.j9
          refine (bdE _ _).2 ?_
          rw [show IntKind.i64.wrap ((fl : Int) + 1) = ((fl + 1 : Nat) : Int) by rw [IntKind.wrap_i64]; omega]
          refine next (x' := { x with F := x.F ++ [bitOf cur' (fl % 8)] }) h1 (by omega) (.inr ⟨cu, h0, h2, h3⟩) (by simp only; omega) (by simp only; omega) (by simp; omega) h4 (MB.cl ⟨y.n, y.s, (p, y.f.2.1 + 1, cc), y.t⟩ B ?_)
          exact S3.to
        refine ⟨⟨_, _, _, S1.rc t8 4 rfl, (bdE _ _).2 ?_⟩, (bdE _ _).2 ?_⟩
        · refine St.push1 sl_bool S1 t8 4 y.f rfl (by simp) (by omega) (by omega) fun p2 c2 h2 S3 => ?_
          simp only [List.set_cons_succ, List.set_cons_zero] at S3
          exact fin (p := p2) (cc := c2) S3.to
        · have S2 := S1.al [.bool (bitOf cur' (fl % 8))] T.bool
          refine ⟨_, _, _, S2.rc t8 4 rfl, ?_⟩
          refine St.push1 sl_bool S1 t8 4 y.f rfl (by simp) (by omega) (by omega) fun p2 c2 h2 S3 => ?_
          simp only [List.set_cons_succ, List.set_cons_zero] at S3
          exact fin (p := p2) (cc := c2) S3.to
      by_cases h8 : fl % 8 = 0
      · rw [if_pos h8] at hr
        refine ifT (by simp [h8]) ((bdE _ _).2 ?_)
        rw [show IntKind.i64.wrap ((a : Int) + 1) = ((a + 1 : Nat) : Int) by rw [IntKind.wrap_i64]; omega]
        by_cases hal : a < bs.length
        · have hx : bs[a]? = some bs[a] := List.getElem?_eq_getElem hal
          have hdr : bs.drop a = bs[a] :: bs.drop (a + 1) := List.drop_eq_getElem_cons hal
          have ht1 : takeP 1 (bs.drop a, false) = ([bs[a]], bs.drop (a + 1), false) := by
            rw [hdr]; exact takeP_app (a := [bs[a]]) rfl
          rw [ht1] at hr
          have en : numN [bs[a]] = bs[a].toNat := by simp [numN]
          simp only [en] at hr
          exact take (a' := a + 1) (cu := bs[a]) (by omega) (by omega) (by simp) rfl (by simpa using hr) S
        · have e0 : bs.drop a = [] := List.drop_eq_nil_of_le (by omega)
          rw [e0] at hr
          unfold qab.j8
          exact ifT (by simp; omega) (bad hr S)
      · rw [if_neg h8] at hr
        refine ifF (by simp; omega) ?_
        rcases hcu with e | ⟨cu, c1, c2, c3⟩
        · exact absurd e h8
        · exact take c1 ha c2 c3 hr S
    · rw [if_neg h102] at hr
      refine ifT (by simp only [bne]; rw [e102]; simp [h102]) ?_
      obtain ⟨y, B, S1⟩ := MB.op S
      have lNy : y.n.2.1 = x.N.length := by have := (S1.ows 1 y.n).1; simp only [nums, List.length_map, Nat.mul_one] at this; omega
      have lSy : y.s.2.1 = x.S.length := by have := (S1.ows 1 y.s).1; simp only [strs, List.length_map, Nat.mul_one] at this; omega
      have bad1 : ∀ {h' : Heap}, docOk none = res → St (Bx t8 (mcells a_ b_ y) :: Ow 1 y.n (nums x.N) :: Ow 1 y.s (strs x.S) :: Ow 1 y.f (bools x.F) :: Tb B y.t x.T :: Bx t2 z2 :: L) h' → ([.int .i64 0, .int .i64 0, .slice none 0 0, .slice none 0 0, .slice none 0 0, .slice none 0 0] : List Value).length = 6 ∧ ∃ h22, stC h' t2 0 [.int .i64 0, .int .i64 0, .slice none 0 0, .slice none 0 0, .slice none 0 0, .slice none 0 0] = some h22 ∧ ∃ cs23, rdC h22 t2 0 6 = some cs23 ∧ K (.tuple #[.agg (List.toArray cs23), .int .i64 4]) h22 :=
        fun e S' => bad e (MB.cl y B S')
      unfold qab.j5
      rw [e115, e108, e116]
      -- a text, or a table
      have long : ∀ (n : Nat), n = 1 ∧ c = 115 ∨ n = 4 ∧ c = 108 ∨ n = 4 ∧ c = 116 → qab.j7 K (qab.L3 K (r.length + 1)) s.1 s.2.1 s.2.2 t2 t8 ff (a : Int) 0 (dn.length : Int) (c.toNat : Int) (n : Int) h := by
        intro n hn
        have tm := textAt_meas (bs := bs) (a := a) (n := n) ha
        have ho : oneP c (bs.drop a, false) x = (if c = 116 then { x with T := (tparseP (measP n (bs.drop a, false)).1).getD [] } else { x with S := x.S ++ [(measP n (bs.drop a, false)).1] }, if c = 116 then (tparseP (measP n (bs.drop a, false)).1).isSome else true, (measP n (bs.drop a, false)).2) := by
          unfold oneP
          rcases hn with ⟨rfl, rfl⟩ | ⟨rfl, rfl⟩ | ⟨rfl, rfl⟩ <;> simp
        rw [ho] at hr
        unfold qab.j7
        refine rtextS (s := s) (bs := bs) (a := a) (n := n) S1 (by omega) ha (by omega) (fun e => ⟨_, _, _, _, _, rfl, ?_⟩) fun q m dd t e he S2 => ⟨_, _, _, _, _, rfl, ?_⟩
        · rw [tm.1 e] at hr
          refine ifT rfl (bad1 ?_ S1)
          simpa using hr
        · obtain ⟨hm, h1, h2⟩ := tm.2 t e he
          rw [hm] at hr
          refine ifF rfl ?_
          by_cases h116 : c = 116
          · refine ifF (by simp only [bne]; rw [e116]; simp [h116]) ?_
            refine rreadTS (s := (q, m, dd)) (bs := t) S2 fun p l cc h3 B3 S3 => ⟨_, _, _, _, rfl, ?_⟩
            simp only [h116, if_true] at hr
            cases hp : tparseP t with
            | none =>
              rw [hp] at hr
              refine ifT rfl (bad1 (by simpa using hr) S3.to)
            | some tfs =>
              rw [hp] at hr S3
              refine ifF rfl (S3.put1 t8 5 (v := .slice p l cc) (by simp) rfl fun h4 S4 => ?_)
              simp only [List.set_cons_succ, List.set_cons_zero, Option.getD_some] at S4
              refine next (x' := { x with T := tfs }) (cur' := cur) (fl' := 0) h2 (by omega) (.inl rfl) (by simp only; omega) (by simp only; omega) (by simp only; omega) (by simpa using hr) (MB.cl ⟨y.n, y.s, y.f, (p, l, cc)⟩ B3 ?_)
              exact S4.to
          · refine ifT (by simp only [bne]; rw [e116]; simp [h116]) ⟨_, _, _, S2.rc t8 3 rfl, ?_⟩
            simp only [h116, if_false] at hr
            refine str_ok u_str8 u_u8 u_string (isl8 S2 (s := (q, m, dd)) (bs := t)).1 ⟨_, rfl, (bdE _ _).2 ?_⟩
            refine St.push1 sl_string S2 t8 3 y.s rfl (by simp) (by omega) (by omega) fun p2 c2 h2' S3 => ?_
            have e : strs x.S ++ [.string (mkS t)] = strs (x.S ++ [t]) := by simp [strs]
            simp only [e, List.set_cons_succ, List.set_cons_zero] at S3
            refine next (x' := { x with S := x.S ++ [t] }) (cur' := cur) (fl' := 0) h2 (by omega) (.inl rfl) (by simp only; omega) (by simp; omega) (by simp only; omega) (by simpa using hr) (MB.cl ⟨y.n, (p2, y.s.2.1 + 1, c2), y.f, y.t⟩ B ?_)
            exact S3.to
      by_cases h115 : c = 115
      · refine (bdE _ _).2 (ifT (by simp [h115]) ?_)
        unfold qab.j6
        rw [e115]
        refine ifT (by simp [h115]) (ifT (by simp [h115]) (long 1 (.inl ⟨rfl, h115⟩)))
      refine (bdE _ _).2 (ifF (by simp [h115]) ?_)
      by_cases h108 : c = 108
      · refine (bdE _ _).2 (ifT (by simp [h108]) ?_)
        unfold qab.j6
        rw [e115]
        refine ifT (by simp [h108]) (ifF (by simp [h115]) (long 4 (.inr (.inl ⟨rfl, h108⟩))))
      refine (bdE _ _).2 (ifF (by simp [h108]) ((bdE _ _).2 ?_))
      by_cases h116 : c = 116
      · unfold qab.j6
        rw [e115]
        refine ifT (by simp [h116]) (ifF (by simp [h115]) (long 4 (.inr (.inr ⟨rfl, h116⟩))))
      -- a number
      have hd : c = 49 ∨ c = 50 ∨ c = 52 ∨ c = 56 := by
        rcases hc with e | e | e | e | e | e | e | e
        · exact absurd e h102
        · exact absurd e h115
        · exact absurd e h108
        · exact absurd e h116
        · exact .inl e
        · exact .inr (.inl e)
        · exact .inr (.inr (.inl e))
        · exact .inr (.inr (.inr e))
      have hd8 : c.toNat - 48 ≤ 8 := by rcases hd with rfl | rfl | rfl | rfl <;> decide
      rw [decide_eq_false h116]
      unfold qab.j6
      refine ifF rfl ((bdE _ _).2 ?_)
      rw [e102]
      refine ifF (by simp [h102]) (dsizeS hd ⟨_, rfl, ?_⟩)
      have nt := numAt_take (bs := bs) (a := a) (n := c.toNat - 48) ha
      have ho : oneP c (bs.drop a, false) x = ({ x with N := x.N ++ [numN (takeP (c.toNat - 48) (bs.drop a, false)).1] }, true, (takeP (c.toNat - 48) (bs.drop a, false)).2) := by
        unfold oneP
        rw [if_neg h115, if_neg h108, if_neg h116]
      rw [ho] at hr
      refine rnumAtS (s := s) (bs := bs) (a := a) (n := c.toNat - 48) S1 (by omega) ha hd8 ⟨_, _, rfl, ?_⟩
      cases hna : numAt bs a (c.toNat - 48) with
      | none =>
        rw [nt.1 hna] at hr
        exact ifT rfl (bad1 (by simpa using hr) S1)
      | some v =>
        obtain ⟨w, hw, hv, hle, hwl⟩ := nt.2 v hna
        rw [hw] at hr
        simp only [hv] at hr
        refine ifF rfl ⟨_, _, _, S1.rc t8 2 rfl, (bdE _ _).2 ?_⟩
        refine St.push1 sl_uint64 S1 t8 2 y.n rfl (by simp) (by omega) (by omega) fun p2 c2 h2' S3 => ?_
        have e : nums x.N ++ [.int .u64 ((v : Nat) : Int)] = nums (x.N ++ [v]) := by simp [nums]
        simp only [Option.getD_some, e, List.set_cons_succ, List.set_cons_zero] at S3
        refine dsizeS hd ⟨_, rfl, (bdE _ _).2 ?_⟩
        rw [show IntKind.i64.wrap ((a : Int) + ((c.toNat - 48 : Nat) : Int)) = ((a + (c.toNat - 48) : Nat) : Int) by rw [IntKind.wrap_i64]; omega]
        refine next (x' := { x with N := x.N ++ [v] }) (cur' := cur) (fl' := 0) hle (by omega) (.inl rfl) (by simp; omega) (by simp only; omega) (by simp only; omega) (by simpa using hr) (MB.cl ⟨(p2, y.n.2.1 + 1, c2), y.s, y.f, y.t⟩ B ?_)
        exact S3.to
theorem rmofS {s : SV} {bs : Oct} (S : St L h) [In (fun z => Im 1 s (u8s z)) L bs] (hb : bs.length < 1000000000000)
    (hK : ∀ y B h', St (Im 1 y.n (nums (resM (methP bs)).2.2.N) :: Im 1 y.s (strs (resM (methP bs)).2.2.S) :: Im 1 y.f (bools (resM (methP bs)).2.2.F) :: Tb B y.t (resM (methP bs)).2.2.T :: L) h' →
      K (.tuple #[.agg (List.toArray (mcells (resM (methP bs)).1 (resM (methP bs)).2.1 y)), .int .i64 (resE (methP bs) : Nat)]) h') : CallsH P F.qab [.slice s.1 s.2.1 s.2.2] K h := by
  rw [← docM_eq] at hK
  have hbad : ∀ e, docM bs = .inl e → ∀ h', St L h' → K (.tuple #[.agg (List.toArray (mcells 0 0 mnil)), .int .i64 (e : Nat)]) h' := by
    intro e he h' S'
    have := hK mnil (fun _ => False) h'
    rw [he] at this
    exact this (meNil S')
  refine qab.ok ?_
  unfold qab.p0
  refine (bdE _ _).2 ?_
  have eh : ∀ h, al h #[.int .i64 0, .int .i64 0, .slice none 0 0, .slice none 0 0, .slice none 0 0, .slice none 0 0] T.api_Method = al h (mcells 0 0 mnil).toArray T.api_Method := fun _ => rfl
  rw [eh]
  have S1 := S.al (mcells 0 0 mnil) T.api_Method
  generalize al h (mcells 0 0 mnil).toArray T.api_Method = h1 at *
  generalize top h = t2 at *
  have n1 := numAt_take (bs := bs) (a := 0) (n := 2) (Nat.zero_le _)
  have bad : ∀ {e : Nat} {h' : Heap}, docM bs = .inl e → St (Bx t2 (mcells 0 0 mnil) :: L) h' → ([.int .i64 0, .int .i64 0, .slice none 0 0, .slice none 0 0, .slice none 0 0, .slice none 0 0] : List Value).length = 6 ∧ ∃ h22, stC h' t2 0 [.int .i64 0, .int .i64 0, .slice none 0 0, .slice none 0 0, .slice none 0 0, .slice none 0 0] = some h22 ∧ ∃ cs23, rdC h22 t2 0 6 = some cs23 ∧ K (.tuple #[.agg (List.toArray cs23), .int .i64 (e : Nat)]) h22 := by
    intro e h' he S'
    exact ⟨rfl, S'.putA t2 (ws := mcells 0 0 mnil) rfl (mcells_one' _ _ _) fun h2 S2 => ⟨_, S2.rall t2 6 rfl, hbad e he h2 S2.tl⟩⟩
  have e0 : bs.drop 0 = bs := rfl
  rw [e0] at n1
  have sl := (isl8 S1 (s := s) (bs := bs)).1
  refine refNum.spec (at' := 0) (n := 2) sl (by omega) (by omega) (by omega) (.inl (Nat.zero_le _)) ⟨_, _, rfl, ?_⟩
  refine refNum.spec (at' := 2) (n := 2) sl (by omega) (by omega) (by omega) (.inr (by omega)) ⟨_, _, rfl, ?_⟩
  have none4 : numAt bs 0 2 = none ∨ numAt bs 2 2 = none → docM bs = .inl 4 := by
    intro hn
    have : (takeP 2 (takeP 2 (bs, false)).2).2.2 = true := by
      rcases hn with e | e
      · rw [n1.1 e]; unfold takeP; rw [if_pos (.inl rfl)]
      · unfold numAt at e
        split at e
        · cases e
        · rename_i h4
          by_cases h2 : bs.length < 2
          · have : takeP 2 (bs, false) = ([], [], true) := by unfold takeP; rw [if_pos (.inr h2)]
            rw [this]; unfold takeP; rw [if_pos (.inl rfl)]
          · have : takeP 2 (bs, false) = (bs.take 2, bs.drop 2, false) := by unfold takeP; rw [if_neg (by simp; omega)]
            rw [this]; unfold takeP; rw [if_pos (.inr (by simp; omega))]
    unfold docM
    rw [if_pos this]
  cases hx : numAt bs 0 2 with
  | none =>
    refine ifT' rfl ?_
    unfold qab.j1
    exact ifT rfl (bad (e := 4) (none4 (.inl hx)) S1)
  | some a =>
    refine ifF' rfl ?_
    unfold qab.j1
    cases hy : numAt bs 2 2 with
    | none => exact ifT rfl (bad (e := 4) (none4 (.inr hy)) S1)
    | some b =>
      refine ifF rfl ?_
      obtain ⟨w, hw, hv, hl1, hwl⟩ := n1.2 a hx
      have n2 := numAt_take (bs := bs) (a := 2) (n := 2) (by omega)
      obtain ⟨w2, hw2, hv2, hl2, hwl2⟩ := n2.2 b hy
      have la : a < 65536 := by have := numN_len w; rw [hwl, hv] at this; exact this
      have lb : b < 65536 := by have := numN_len w2; rw [hwl2, hv2] at this; exact this
      have ed : docM bs = match formP ((a : Int), (b : Int)) with
          | none => .inl 5
          | some f => match docR f (bs.drop 4) 0 0 noM with
            | none => .inl 4
            | some (x, s) => if s ≠ [] then .inl 4 else .inr ((a : Int), (b : Int), x) := by
        unfold docM
        rw [hw]
        simp only [Nat.zero_add, hw2, hv, hv2]
        rfl
      refine (bdE _ _).2 ?_
      rw [eh]
      have S2 := S1.al (mcells 0 0 mnil) T.api_Method
      simp only [Option.getD_some]
      have wa : IntKind.i64.wrap ((a : Nat) : Int) = (a : Int) := by rw [IntKind.wrap_i64]; omega
      have wb : IntKind.i64.wrap ((b : Nat) : Int) = (b : Int) := by rw [IntKind.wrap_i64]; omega
      rw [wa, wb]
      refine ⟨rfl, S2.putA (top h1) (ws := mcells (a : Int) (b : Int) mnil) rfl (mcells_one' _ _ _) fun h2 S3 => ?_⟩
      generalize top h1 = t8 at *
      refine ⟨_, S3.rc t8 0 rfl, _, S3.rc t8 1 rfl, refForm.spec ?_⟩
      cases hf : formP ((a : Int), (b : Int)) with
      | none =>
        rw [hf] at ed
        exact ⟨_, _, rfl, ifT rfl (bad (e := 5) ed S3.tl)⟩
      | some f =>
        rw [hf] at ed
        simp only at ed
        have nice := formP_nice hf
        refine ⟨_, _, rfl, ifF rfl ⟨f.length + 1, ?_⟩⟩
        have S4 : St (MB t8 (a : Int) (b : Int) noM :: Bx t2 (mcells 0 0 mnil) :: L) h2 := MB.cl mnil (fun _ => False) (((((tbNil 0 S3).owNil 1).owNil 1).owNil 1).p4)
        refine mof_loop (K := K) (L := L) (s := s) (bs := bs) (t2 := t2) (t8 := t8) (a_ := a) (b_ := b) (ff := f) (res := docOk (docR f (bs.drop 4) 0 0 noM)) (z2 := mcells 0 0 mnil) rfl hb ?_ ?_ f [] 4 0 0 noM h2 rfl (by have := nice.2.2; omega) nice.1 (by omega) (Nat.zero_le _) (.inl rfl) (Nat.zero_le _) (Nat.zero_le _) (Nat.zero_le _) rfl S4
        · intro e h' S'
          refine hbad 4 ?_ h' S'
          rw [ed]
          cases hd : docR f (bs.drop 4) 0 0 noM with
          | none => rfl
          | some r =>
            obtain ⟨x, s⟩ := r
            rw [hd] at e
            cases s with
            | nil => cases e
            | cons c r => simp
        · intro x e y B h' S'
          have : docM bs = .inr ((a : Int), (b : Int), x) := by
            rw [ed]
            cases hd : docR f (bs.drop 4) 0 0 noM with
            | none => rw [hd] at e; cases e
            | some r =>
              obtain ⟨x', s⟩ := r
              rw [hd] at e
              cases s with
              | nil => cases e; rfl
              | cons c r => cases e
          have k := hK y B h'
          rw [this] at k
          exact k S'
end
end Go.Proofs.Ytjkiaeccjelklaa.Pr
end
